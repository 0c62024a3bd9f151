/- Contract of the document's Write of a packet. -/
import Derived.Test.YtbjiicnagfeciaaIpPD
import Derived.Deep.RegionHeld3
import Derived.Deep.DrawnRows
namespace Go.Proofs.Ytbjiicnagfeciaa
open Go Go.RowKit
attribute [local go_sem ↓] Go.wp_at_zero Go.wp_at_succ
set_option maxRecDepth 100000

theorem ipHead_set (p : Pk) : ((ipHead p).set 10 (UInt8.ofNat (inet (ipHead p) / 256))).set 11 (UInt8.ofNat (inet (ipHead p))) = sumAt (ipHead p) 10 := by
  have h : ((ipHead p).set 10 0).set 11 0 = ipHead p := by
    unfold ipHead
    have h8 : ([69, 0] ++ (beBytes 2 (20 + p.body.length) ++ beBytes 2 p.id.toNat ++ beBytes 2 (ipFrag p.off p.more)) : List UInt8).length = 8 := by simp [beBytes_len]
    generalize [69, 0] ++ (beBytes 2 (20 + p.body.length) ++ beBytes 2 p.id.toNat ++ beBytes 2 (ipFrag p.off p.more)) = H at *
    match H, h8 with
    | [_, _, _, _, _, _, _, _], _ => rfl
  unfold sumAt
  rw [h]
theorem at_next {a b c : Option Nat} {n H : Nat} (h : b = a ∨ ∃ k, b = some k ∧ n ≤ k) (h2 : c = b ∨ c = some H) (hH : n ≤ H) : c = a ∨ ∃ k, c = some k ∧ n ≤ k := by
  rcases h2 with rfl | rfl
  · exact h
  · exact .inr ⟨H, rfl, hH⟩
theorem far_step {w wr w3 : World} {vb ob : Option Nat} (h : w.grownBy wr vb) (ho : ob = vb ∨ ∃ k, ob = some k ∧ w.heap.size ≤ k) (h3 : wr.grownBy w3 ob) : w.grownBy w3 vb := by
  obtain ⟨a, b, c, d, e⟩ := h
  obtain ⟨a', b', c', d', e'⟩ := h3
  refine ⟨a'.trans a, b'.trans b, c'.trans c, Nat.le_trans d d', fun k hk hn => (e' k (Nat.lt_of_lt_of_le hk d) ?_).trans (e k hk hn)⟩
  rcases ho with rfl | ⟨k', rfl, hk'⟩
  · exact hn
  · intro q; injection q with q; omega
theorem keep6 {w wr : World} {t : TypeId} {x0 x1 x2 x3 x4 x5 x6 x7 x8 : Value} (h : Below (w.heap.size + 1) (w.alloc (.cells #[x0, x1, x2, x3, x4, x5, x6, x7, x8] t)) wr) :
    Below (w.heap.size + 1) (w.alloc (.cells #[x0, x1, x2, x3, x4, x5, x6, x7, x8] t)) wr ∧ wr.cell? ⟨w.heap.size, 0, none⟩ = some x0 ∧ wr.cell? ⟨w.heap.size, 1, none⟩ = some x1 ∧ wr.cell? ⟨w.heap.size, 2, none⟩ = some x2 ∧ wr.cell? ⟨w.heap.size, 3, none⟩ = some x3 ∧ wr.cell? ⟨w.heap.size, 7, none⟩ = some x7 ∧ wr.cell? ⟨w.heap.size, 8, none⟩ = some x8 :=
  have hb := (Blk.new w t #[x0, x1, x2, x3, x4, x5, x6, x7, x8]).below h (Nat.lt_succ_self _)
  ⟨h, hb.cell 0, hb.cell 1, hb.cell 2, hb.cell 3, hb.cell 7, hb.cell 8⟩
theorem cut_in {P Q : Prop} (h : P) (k : Hid P → Q) : Q := k (hid h)
theorem bs_lit_far {w2 wc w3 : World} {base : Nat} {e t : TypeId} {v : Value} {b0 : List UInt8} (cs : Array Value) (bs : List UInt8) (n : Nat) (h : OwnBs w2 base e v b0) (hg : wc.grownBy w3 v.ownBlock) (hk : Blk wc w2.heap.size t cs.toList) (hx : cs.toList = bs.map u8v) (hn : bs.length = n) (hm : n ≤ 65536) :
    Bs w3 (.slice (some ⟨w2.heap.size, 0, none⟩) n n) bs :=
  (hk.grown hg (fun q => by have := (World.ownsRow.lt h _ q.symm).2; omega)).bs (by rw [List.drop_zero, hx]; exact List.take_of_length_le (by simp; omega)) hn (Nat.le_refl _) (by simp only [maxLen]; omega)
theorem rhigh_far (v : Value) (b : List UInt8) (p xi : Int) (m x : Nat) (w : World) (base : Nat) (h : OwnBs w base 5 v b) (hp : p = m) (hx : xi = x) (hbase : base ≤ w.heap.size) (hm : m ≤ 8) (hsize : b.length ≤ 190000000000000) :
    Calls Try.prog 43 #[v, .int .i64 p, .int .u64 xi] w fun e w' => ∃ v', e = .returned v' ∧ OwnBs w' base 5 v' (b ++ beBytes m x) ∧ Below base w w' ∧ w.grownBy w' v.ownBlock := by
  subst hp; subst hx
  have Hb := hid h; clear h
  go_enter Try.func43, Try.ntmps43
  go_wp2
  go_loopw [0, 7] (fun o i wr => ∃ j : Nat, j ≤ m ∧ i = .int .i64 ((m : Int) - 1 - j) ∧ Hid (OwnBs wr base 5 o (b ++ (beBytes m x).take j)) ∧ Below base w wr ∧ Hid (w.grownBy wr v.ownBlock) ∧ Hid (o.ownBlock = v.ownBlock ∨ ∃ k, o.ownBlock = some k ∧ w.heap.size ≤ k)) (fun _ i _ => (intOf i + 1).toNat)
  case atStart => exact ⟨0, Nat.zero_le _, by simp, by simpa using Hb, Below.refl _ _, hid (below_grown (Below.refl _ _) _), hid (.inl rfl)⟩
  case round =>
    obtain ⟨j, hj, rfl, Hown2, hbw2, Hgw, Ho⟩ := hrel
    by_cases hjt : j < m
    · obtain ⟨q, hq⟩ : ∃ q : Nat, m = q + 1 + j := ⟨m - 1 - j, by omega⟩
      have e1 : ((m : Int) - 1 - (j : Int)) = (q : Int) := by omega
      rw [e1]
      have Htk := hid (show (beBytes m x).take (j + 1) = (beBytes m x).take j ++ [UInt8.ofNat (x / 256 ^ q)] by
        rw [take_snoc _ _ (by rw [beBytes_len]; exact hjt), beBytes_get m x j hjt, show m - 1 - j = q from by omega])
      have hlen2 : (b ++ (beBytes m x).take j).length ≤ b.length + 8 := by
        rw [List.length_append, List.length_take, beBytes_len]; omega
      have hq8 : q < 8 := by omega
      have Hq := hid hq; clear hq e1
      go_wp2_with (at_builtin; refine wpList_app8 _ rfl _ _ 23 rfl base 5 u8ok _ _ rfl (Hown2.out.alloc _) _ [UInt8.ofNat (x / 256 ^ q)] rfl (bs_one (u8_shr x q)) (by simp only [List.length_singleton]; omega) (by simp; have := hbw2.size; omega) ?_; intro v3 w3 hown3 hb3 hg3 hat3; have Hg3 := hid (far_step (far_step Hgw.out (.inl rfl) (below_grown (below_alloc _ _) _)) Ho.out hg3); have Hat3 := hid (at_next Ho.out hat3 (by simp only [World.size_alloc]; have := Hgw.out.size; omega)); clear hg3 hat3)
      go_roundw
      case rel => exact ⟨j + 1, by omega, val_int (by have := Hq.out; omega), by rw [Htk.out, ← List.append_assoc]; exact hown3, (hbw2.alloc (Nat.le_trans hbase hbw2.size) _).trans hb3, Hg3, Hat3⟩
      case measure => simp [intOf]
    · have e : (beBytes m x).take j = beBytes m x := List.take_of_length_le (by rw [beBytes_len]; omega)
      rw [e] at Hown2
      clear e
      go_wp2
      go_ret
      exact ⟨_, rfl, Hown2.out, hbw2, Hgw.out⟩

set_option maxHeartbeats 4000000 in
theorem rWrite_bad (v : Value) (p : Pk) (w : World) (h : Bs w v p.body) (hl : p.body.length ≤ 1099511627776) (hb : ipBadArg p) :
    Calls Try.prog 25 #[.agg (pkCells p v).toArray] w fun e w' => ∃ v', e = .returned (.tuple #[v', .int .i64 1]) ∧ OwnBs w' w.heap.size 5 v' [] ∧ Below w.heap.size w w' := by
  have hc := ipBad_cases hb
  clear hb
  obtain ⟨src, dst, proto, id, off, more, whole, ttl, body⟩ := p
  simp only at hc hl h
  obtain ⟨A, cap, rfl, k1, k2, _⟩ := h.cells
  clear h
  dsimp only [pkCells]
  rcases hc with z | ⟨a1, z⟩ | ⟨a1, a2, z⟩ | ⟨a1, a2, a3, z⟩ | ⟨a1, a2, a3, a4, z⟩ | ⟨a1, a2, a3, a4, a5, z⟩ | ⟨a1, a2, a3, a4, a5, a6, z⟩ | ⟨a1, a2, a3, a4, a5, a6, a7, z⟩ | ⟨a1, a2, a3, a4, a5, a6, a7, a8, z⟩
  · (go_enter Try.func25, Try.ntmps25; go_wp2_with fail; go_ret2; exact ⟨_, rfl, OwnBs.nil _ _ _, below_alloc _ _⟩)
  · (go_enter Try.func25, Try.ntmps25; go_wp2_with fail; go_ret2; exact ⟨_, rfl, OwnBs.nil _ _ _, below_alloc _ _⟩)
  · (go_enter Try.func25, Try.ntmps25; go_wp2_with fail; go_ret2; exact ⟨_, rfl, OwnBs.nil _ _ _, below_alloc _ _⟩)
  · (go_enter Try.func25, Try.ntmps25; go_wp2_with fail; go_ret2; exact ⟨_, rfl, OwnBs.nil _ _ _, below_alloc _ _⟩)
  · (go_enter Try.func25, Try.ntmps25; go_wp2_with fail; go_ret2; exact ⟨_, rfl, OwnBs.nil _ _ _, below_alloc _ _⟩)
  · (go_enter Try.func25, Try.ntmps25; go_wp2_with fail; go_ret2; exact ⟨_, rfl, OwnBs.nil _ _ _, below_alloc _ _⟩)
  · (go_enter Try.func25, Try.ntmps25; go_wp2_with fail; go_ret2; exact ⟨_, rfl, OwnBs.nil _ _ _, below_alloc _ _⟩)
  · (go_enter Try.func25, Try.ntmps25; go_wp2_with fail; go_ret2; exact ⟨_, rfl, OwnBs.nil _ _ _, below_alloc _ _⟩)
  · have z1 : off.tmod 8 = off % 8 := by rw [Int.tmod_eq_emod_of_nonneg (by omega)]
    have z2 : (off % 8 != 0) = true := by simpa using z
    (go_enter Try.func25, Try.ntmps25; go_wp2_with fail; go_ret2; exact ⟨_, rfl, OwnBs.nil _ _ _, below_alloc _ _⟩)

set_option maxHeartbeats 8000000 in
theorem rWrite_ok (v : Value) (src dst proto id o8 ttl : Nat) (more whole : Bool) (body : List UInt8) (m : Nat) (hm : body.length = m) (w : World) (h : Bs w v body) (hs : src < 4294967296) (hd : dst < 4294967296) (h1 : proto ≤ 255) (h2 : ttl ≤ 255) (h3 : id ≤ 65535) (h4 : o8 ≤ 8191)
    (h5 : more = true → 0 < m ∧ m % 8 = 0) (h6 : m ≤ 65515) :
    Calls Try.prog 25 #[.agg #[.int .u32 (src : Int), .int .u32 (dst : Int), .int .i64 (proto : Int), .int .i64 (id : Int), .int .i64 ((o8 * 8 : Nat) : Int), .bool more, .bool whole, .int .i64 (ttl : Int), v]] w fun e w' => ∃ v', e = .returned (.tuple #[v', .int .i64 0]) ∧
      OwnBs w' w.heap.size 5 v' (ipFull ⟨src, dst, proto, id, (o8 * 8 : Nat), more, whole, ttl, body⟩) ∧ Below w.heap.size w w' := by
  obtain ⟨off, hoff⟩ : ∃ x : Int, ((o8 * 8 : Nat) : Int) = x := ⟨_, rfl⟩
  rw [hoff]
  have hoff2 : off = o8 * 8 := by omega
  have Hb := hid h
  obtain ⟨A, cap, rfl⟩ := slice_len h hm
  have Hm := hid hm
  clear h
  have a1 : ¬ (proto : Int) < 0 := by omega
  have a2 : ¬ (proto : Int) > 255 := by omega
  have a3 : ¬ (ttl : Int) < 0 := by omega
  have a4 : ¬ (ttl : Int) > 255 := by omega
  have a5 : ¬ (id : Int) < 0 := by omega
  have a6 : ¬ (id : Int) > 65535 := by omega
  have a7 : ¬ off < 0 := by omega
  have a8 : ¬ off > 65528 := by omega
  have z1 : off.tmod 8 = off % 8 := by rw [Int.tmod_eq_emod_of_nonneg (by omega)]
  have z2 : (off % 8 != 0) = false := by simp; omega
  have z3 : off.tdiv 8 = (o8 : Int) := by rw [Int.tdiv_eq_ediv_of_nonneg (by omega)]; omega
  have z4 : (m : Int).tmod 8 = (m : Int) % 8 := by rw [Int.tmod_eq_emod_of_nonneg (by omega)]
  have a9 : ¬ (m : Int) > 65515 := by omega
  have w1 : IntKind.u8.wrap (ttl : Int) = (ttl : Int) := IntWalk.u8_in _ (by omega)
  have w2 : IntKind.u8.wrap (proto : Int) = (proto : Int) := IntWalk.u8_in _ (by omega)
  have w3 : IntKind.u64.wrap (id : Int) = (id : Int) := IntWalk.u64_in _ (by omega)
  have w4 : IntKind.i64.wrap (20 + (m : Int)) = 20 + (m : Int) := IntWalk.i64_in _ (by omega)
  have w5 : IntKind.u64.wrap (20 + (m : Int)) = 20 + (m : Int) := IntWalk.u64_in _ (by omega)
  have w6 : IntKind.u64.wrap (src : Int) = (src : Int) := IntWalk.u64_in _ (by omega)
  have w7 : IntKind.u64.wrap (dst : Int) = (dst : Int) := IntWalk.u64_in _ (by omega)
  obtain ⟨fr, hfr⟩ : ∃ n : Nat, ipFrag off more = n := ⟨_, rfl⟩
  have hfl : fr < 65536 := by rw [← hfr]; unfold ipFrag; split <;> omega
  have w8 : IntKind.u64.wrap (fr : Int) = (fr : Int) := IntWalk.u64_in _ (by omega)
  have HF := hid (show ipFull ⟨src, dst, proto, id, off, more, whole, ttl, body⟩ = sumAt (ipHead ⟨src, dst, proto, id, off, more, whole, ttl, body⟩) 10 ++ body from rfl)
  have He3 := hid (show ipHead ⟨src, dst, proto, id, off, more, whole, ttl, body⟩ = [69, 0] ++ beBytes 2 (20 + m) ++ beBytes 2 id ++ beBytes 2 fr ++ [UInt8.ofNat ttl, UInt8.ofNat proto, 0, 0] ++ beBytes 4 src ++ beBytes 4 dst by unfold ipHead; rw [hm, hfr]; simp)
  have Hset := hid (ipHead_set ⟨src, dst, proto, id, off, more, whole, ttl, body⟩)
  have Hl3 := hid (ipHead_len ⟨src, dst, proto, id, off, more, whole, ttl, body⟩)
  have Hl4 := hid (show (sumAt (ipHead ⟨src, dst, proto, id, off, more, whole, ttl, body⟩) 10).length = 20 by rw [sumAt_len]; exact Hl3.out)
  rw [HF.out]
  generalize ipHead ⟨src, dst, proto, id, off, more, whole, ttl, body⟩ = hdr at *
  obtain ⟨S, hS⟩ : ∃ S, inet hdr = S := ⟨_, rfl⟩
  have HS := hid hS
  have hS16 : S ≤ 65535 := by rw [← hS]; unfold inet; omega
  rw [hS] at Hset
  clear hm hS HF
  have t1 : Value.int .u8 (ttl : Int) = u8v (UInt8.ofNat ttl) := by unfold u8v; rw [UInt8.toNat_ofNat']; exact val_int (by omega)
  have t2 : Value.int .u8 (proto : Int) = u8v (UInt8.ofNat proto) := by unfold u8v; rw [UInt8.toNat_ofNat']; exact val_int (by omega)
  have T1 := hid t1
  have T2 := hid t2
  have Hlx := hid (show (#[.int .u8 (ttl : Int), .int .u8 (proto : Int), .int .u8 0, .int .u8 0] : Array Value).toList = [UInt8.ofNat ttl, UInt8.ofNat proto, 0, 0].map u8v by rw [T1.out, T2.out]; rfl)
  have hmore : more = false ∧ fr = o8 ∨ more = true ∧ fr = o8 + 8192 ∧ 0 < m ∧ m % 8 = 0 := by
    cases hmo : more
    · exact .inl ⟨rfl, by rw [← hfr]; unfold ipFrag; rw [hmo]; simp; omega⟩
    · exact .inr ⟨rfl, by rw [← hfr]; unfold ipFrag; rw [hmo]; simp; omega, h5 hmo⟩
  clear t1 t2 hfr hoff hoff2 h5
  rcases hmore with ⟨rfl, rfl⟩ | ⟨rfl, hfo, m1, m2⟩
  · go_enter Try.func25, Try.ntmps25
    go_upto_region 10 with (fail)
    go_region_held3 (fun wr => Below (w.heap.size + 1) (w.alloc (.cells #[.int .u32 (src : Int), .int .u32 (dst : Int), .int .i64 (proto : Int), .int .i64 (id : Int), .int .i64 off, .bool false, .bool whole, .int .i64 (ttl : Int), .slice A m cap] 35)) wr ∧ wr.cell? ⟨w.heap.size, 0, none⟩ = some (.int .u32 (src : Int)) ∧ wr.cell? ⟨w.heap.size, 1, none⟩ = some (.int .u32 (dst : Int)) ∧ wr.cell? ⟨w.heap.size, 2, none⟩ = some (.int .i64 (proto : Int)) ∧ wr.cell? ⟨w.heap.size, 3, none⟩ = some (.int .i64 (id : Int)) ∧ wr.cell? ⟨w.heap.size, 7, none⟩ = some (.int .i64 (ttl : Int)) ∧ wr.cell? ⟨w.heap.size, 8, none⟩ = some (.slice A m cap)) (refine keep6 ?_ <;> (repeat (first | (with_reducible exact Hb6.out) | (with_reducible exact Hb5.out) | (with_reducible exact Hb4.out) | (with_reducible exact Hb3.out) | (with_reducible exact Hb2.out) | (with_reducible exact Hb1.out) | (with_reducible exact Below.refl _ _) | (with_reducible refine bel1 ?_ _) | (with_reducible refine Below.drew ?_) | (with_reducible refine below_drewN ?_ _)))) (first
      | (go_at_call 43; with_reducible refine (rhigh_far (.slice (some ⟨_, 0, none⟩) 2 2) [69, 0] 2 (20 + (m : Int)) 2 (20 + m) _ (w.heap.size + 1) (by (repeat (first | (with_reducible refine OwnBs.drew ?_) | (with_reducible refine OwnBs.drewN ?_ _) | (exact ownBs_litH #[.int .u8 69, .int .u8 0] [69, 0] 2 _ rfl rfl (by decide) (by simp) (by simp))))) rfl (by simp) (by simp) (by decide) (by simp)).mono ?_; rintro e w1 ⟨v1, rfl, hown1, hb1, hg1⟩; have H1 := hid hown1; have Hb1 := hid (show Below (w.heap.size + 1) (w.alloc (.cells #[.int .u32 (src : Int), .int .u32 (dst : Int), .int .i64 (proto : Int), .int .i64 (id : Int), .int .i64 off, .bool false, .bool whole, .int .i64 (ttl : Int), .slice A m cap] 35)) _ from Below.trans (by (repeat (first | (with_reducible exact Hb6.out) | (with_reducible exact Hb5.out) | (with_reducible exact Hb4.out) | (with_reducible exact Hb3.out) | (with_reducible exact Hb2.out) | (with_reducible exact Hb1.out) | (with_reducible exact Below.refl _ _) | (with_reducible refine bel1 ?_ _) | (with_reducible refine Below.drew ?_) | (with_reducible refine below_drewN ?_ _)))) hb1); clear hown1 hb1 hg1)
      | (go_at_call 43; with_reducible refine (rhigh_far v1 ([69, 0] ++ beBytes 2 (20 + m)) 2 (id : Int) 2 id _ (w.heap.size + 1) (by (repeat (first | (with_reducible exact H6.out) | (with_reducible exact H5.out) | (with_reducible exact H4.out) | (with_reducible exact H3.out) | (with_reducible exact H2.out) | (with_reducible exact H1.out) | (with_reducible refine OwnBs.drew ?_) | (with_reducible refine OwnBs.drewN ?_ _) | (with_reducible refine OwnBs.alloc ?_ _)))) rfl rfl (by have := Hb1.out.size; simp at this; (try simp); omega) (by decide) (by simp [beBytes_len])).mono ?_; rintro e w2 ⟨v2, rfl, hown2, hb2, hg2⟩; have H2 := hid hown2; have Hb2 := hid (show Below (w.heap.size + 1) (w.alloc (.cells #[.int .u32 (src : Int), .int .u32 (dst : Int), .int .i64 (proto : Int), .int .i64 (id : Int), .int .i64 off, .bool false, .bool whole, .int .i64 (ttl : Int), .slice A m cap] 35)) _ from Below.trans (by (repeat (first | (with_reducible exact Hb6.out) | (with_reducible exact Hb5.out) | (with_reducible exact Hb4.out) | (with_reducible exact Hb3.out) | (with_reducible exact Hb2.out) | (with_reducible exact Hb1.out) | (with_reducible exact Below.refl _ _) | (with_reducible refine bel1 ?_ _) | (with_reducible refine Below.drew ?_) | (with_reducible refine below_drewN ?_ _)))) hb2); clear hown2 hb2 hg2))
    go_upto_region 11 with (fail)
    go_region_held3 (fun wr => Below (w.heap.size + 1) (w.alloc (.cells #[.int .u32 (src : Int), .int .u32 (dst : Int), .int .i64 (proto : Int), .int .i64 (id : Int), .int .i64 off, .bool false, .bool whole, .int .i64 (ttl : Int), .slice A m cap] 35)) wr ∧ wr.cell? ⟨w.heap.size, 0, none⟩ = some (.int .u32 (src : Int)) ∧ wr.cell? ⟨w.heap.size, 1, none⟩ = some (.int .u32 (dst : Int)) ∧ wr.cell? ⟨w.heap.size, 2, none⟩ = some (.int .i64 (proto : Int)) ∧ wr.cell? ⟨w.heap.size, 3, none⟩ = some (.int .i64 (id : Int)) ∧ wr.cell? ⟨w.heap.size, 7, none⟩ = some (.int .i64 (ttl : Int)) ∧ wr.cell? ⟨w.heap.size, 8, none⟩ = some (.slice A m cap)) (refine keep6 ?_ <;> (repeat (first | (with_reducible exact Hb6.out) | (with_reducible exact Hb5.out) | (with_reducible exact Hb4.out) | (with_reducible exact Hb3.out) | (with_reducible exact Hb2.out) | (with_reducible exact Hb1.out) | (with_reducible exact Below.refl _ _) | (with_reducible refine bel1 ?_ _) | (with_reducible refine Below.drew ?_) | (with_reducible refine below_drewN ?_ _)))) (first
      | (go_at_call 43; with_reducible refine (rhigh_far v2 ([69, 0] ++ beBytes 2 (20 + m) ++ beBytes 2 id) 2 (fr : Int) 2 fr _ (w.heap.size + 1) (by (repeat (first | (with_reducible exact H6.out) | (with_reducible exact H5.out) | (with_reducible exact H4.out) | (with_reducible exact H3.out) | (with_reducible exact H2.out) | (with_reducible exact H1.out) | (with_reducible refine OwnBs.drew ?_) | (with_reducible refine OwnBs.drewN ?_ _) | (with_reducible refine OwnBs.alloc ?_ _)))) rfl rfl (by have := Hb2.out.size; simp at this; (try simp); omega) (by decide) (by simp [beBytes_len])).mono ?_; rintro e w3 ⟨v3, rfl, hown3, hb3, hg3⟩; have H3 := hid hown3; have Hb3 := hid (show Below (w.heap.size + 1) (w.alloc (.cells #[.int .u32 (src : Int), .int .u32 (dst : Int), .int .i64 (proto : Int), .int .i64 (id : Int), .int .i64 off, .bool false, .bool whole, .int .i64 (ttl : Int), .slice A m cap] 35)) _ from Below.trans (by (repeat (first | (with_reducible exact Hb6.out) | (with_reducible exact Hb5.out) | (with_reducible exact Hb4.out) | (with_reducible exact Hb3.out) | (with_reducible exact Hb2.out) | (with_reducible exact Hb1.out) | (with_reducible exact Below.refl _ _) | (with_reducible refine bel1 ?_ _) | (with_reducible refine Below.drew ?_) | (with_reducible refine below_drewN ?_ _)))) hb3); (first | (have HLb := hid (bs_lit_far (t := 5) #[.int .u8 (ttl : Int), .int .u8 (proto : Int), .int .u8 0, .int .u8 0] [UInt8.ofNat ttl, UInt8.ofNat proto, 0, 0] 4 H2.out hg3 (Blk.drew (Blk.new _ _ #[.int .u8 (ttl : Int), .int .u8 (proto : Int), .int .u8 0, .int .u8 0])) Hlx.out rfl (by decide))) | (have HLb := hid (bs_lit_far (t := 5) #[.int .u8 (ttl : Int), .int .u8 (proto : Int), .int .u8 0, .int .u8 0] [UInt8.ofNat ttl, UInt8.ofNat proto, 0, 0] 4 H2.out hg3 (Blk.new _ _ #[.int .u8 (ttl : Int), .int .u8 (proto : Int), .int .u8 0, .int .u8 0]) Hlx.out rfl (by decide))) | (have HLb := hid (bs_lit_far (t := 5) #[.int .u8 (ttl : Int), .int .u8 (proto : Int), .int .u8 0, .int .u8 0] [UInt8.ofNat ttl, UInt8.ofNat proto, 0, 0] 4 H2.out hg3 (Blk.drew (Blk.drew (Blk.new _ _ #[.int .u8 (ttl : Int), .int .u8 (proto : Int), .int .u8 0, .int .u8 0]))) Hlx.out rfl (by decide))) | skip); clear hown3 hb3 hg3)
      | (refine step_app8 _ (by rfl) _ _ 23 (by rfl) (w.heap.size + 1) 5 u8ok v3 ([69, 0] ++ beBytes 2 (20 + m) ++ beBytes 2 id ++ beBytes 2 fr) (by rfl) (by (repeat (first | (with_reducible exact H6.out) | (with_reducible exact H5.out) | (with_reducible exact H4.out) | (with_reducible exact H3.out) | (with_reducible exact H2.out) | (with_reducible exact H1.out) | (with_reducible refine OwnBs.drew ?_) | (with_reducible refine OwnBs.drewN ?_ _) | (with_reducible refine OwnBs.alloc ?_ _)))) (.slice (some ⟨_, 0, none⟩) 4 4) [UInt8.ofNat ttl, UInt8.ofNat proto, 0, 0] (by rfl) (by (repeat (first | (with_reducible exact HLb.out) | (with_reducible refine Bs.drew ?_) | (with_reducible refine Bs.drewN ?_ _) | (exact bs_litm #[.int .u8 (ttl : Int), .int .u8 (proto : Int), .int .u8 0, .int .u8 0] [UInt8.ofNat ttl, UInt8.ofNat proto, 0, 0] 4 _ Hlx.out rfl (by decide) (by simp))))) (by simp [beBytes_len]) (by have := Hb3.out.size; simp at this; (try simp); omega) ?_; intro v4 w4 hown4 hb4 hg4; have H4 := hid hown4; have Hb4 := hid (show Below (w.heap.size + 1) (w.alloc (.cells #[.int .u32 (src : Int), .int .u32 (dst : Int), .int .i64 (proto : Int), .int .i64 (id : Int), .int .i64 off, .bool false, .bool whole, .int .i64 (ttl : Int), .slice A m cap] 35)) _ from Below.trans (by (repeat (first | (with_reducible exact Hb6.out) | (with_reducible exact Hb5.out) | (with_reducible exact Hb4.out) | (with_reducible exact Hb3.out) | (with_reducible exact Hb2.out) | (with_reducible exact Hb1.out) | (with_reducible exact Below.refl _ _) | (with_reducible refine bel1 ?_ _) | (with_reducible refine Below.drew ?_) | (with_reducible refine below_drewN ?_ _)))) hb4); clear hown4 hb4 hg4))
    all_goals
      go_upto_region 12 with (fail)
      go_region_held3 (fun wr => Below (w.heap.size + 1) (w.alloc (.cells #[.int .u32 (src : Int), .int .u32 (dst : Int), .int .i64 (proto : Int), .int .i64 (id : Int), .int .i64 off, .bool false, .bool whole, .int .i64 (ttl : Int), .slice A m cap] 35)) wr ∧ wr.cell? ⟨w.heap.size, 0, none⟩ = some (.int .u32 (src : Int)) ∧ wr.cell? ⟨w.heap.size, 1, none⟩ = some (.int .u32 (dst : Int)) ∧ wr.cell? ⟨w.heap.size, 2, none⟩ = some (.int .i64 (proto : Int)) ∧ wr.cell? ⟨w.heap.size, 3, none⟩ = some (.int .i64 (id : Int)) ∧ wr.cell? ⟨w.heap.size, 7, none⟩ = some (.int .i64 (ttl : Int)) ∧ wr.cell? ⟨w.heap.size, 8, none⟩ = some (.slice A m cap)) (refine keep6 ?_ <;> (repeat (first | (with_reducible exact Hb6.out) | (with_reducible exact Hb5.out) | (with_reducible exact Hb4.out) | (with_reducible exact Hb3.out) | (with_reducible exact Hb2.out) | (with_reducible exact Hb1.out) | (with_reducible exact Below.refl _ _) | (with_reducible refine bel1 ?_ _) | (with_reducible refine Below.drew ?_) | (with_reducible refine below_drewN ?_ _)))) (first
      | (go_at_call 43; with_reducible refine (rhigh_far v4 ([69, 0] ++ beBytes 2 (20 + m) ++ beBytes 2 id ++ beBytes 2 fr ++ [UInt8.ofNat ttl, UInt8.ofNat proto, 0, 0]) 4 (src : Int) 4 src _ (w.heap.size + 1) (by (repeat (first | (with_reducible exact H6.out) | (with_reducible exact H5.out) | (with_reducible exact H4.out) | (with_reducible exact H3.out) | (with_reducible exact H2.out) | (with_reducible exact H1.out) | (with_reducible refine OwnBs.drew ?_) | (with_reducible refine OwnBs.drewN ?_ _) | (with_reducible refine OwnBs.alloc ?_ _)))) rfl rfl (by have := Hb4.out.size; simp at this; (try simp); omega) (by decide) (by simp [beBytes_len])).mono ?_; rintro e w5 ⟨v5, rfl, hown5, hb5, hg5⟩; have H5 := hid hown5; have Hb5 := hid (show Below (w.heap.size + 1) (w.alloc (.cells #[.int .u32 (src : Int), .int .u32 (dst : Int), .int .i64 (proto : Int), .int .i64 (id : Int), .int .i64 off, .bool false, .bool whole, .int .i64 (ttl : Int), .slice A m cap] 35)) _ from Below.trans (by (repeat (first | (with_reducible exact Hb6.out) | (with_reducible exact Hb5.out) | (with_reducible exact Hb4.out) | (with_reducible exact Hb3.out) | (with_reducible exact Hb2.out) | (with_reducible exact Hb1.out) | (with_reducible exact Below.refl _ _) | (with_reducible refine bel1 ?_ _) | (with_reducible refine Below.drew ?_) | (with_reducible refine below_drewN ?_ _)))) hb5); clear hown5 hb5 hg5)
      | (go_at_call 43; with_reducible refine (rhigh_far v5 ([69, 0] ++ beBytes 2 (20 + m) ++ beBytes 2 id ++ beBytes 2 fr ++ [UInt8.ofNat ttl, UInt8.ofNat proto, 0, 0] ++ beBytes 4 src) 4 (dst : Int) 4 dst _ (w.heap.size + 1) (by (repeat (first | (with_reducible exact H6.out) | (with_reducible exact H5.out) | (with_reducible exact H4.out) | (with_reducible exact H3.out) | (with_reducible exact H2.out) | (with_reducible exact H1.out) | (with_reducible refine OwnBs.drew ?_) | (with_reducible refine OwnBs.drewN ?_ _) | (with_reducible refine OwnBs.alloc ?_ _)))) rfl rfl (by have := Hb5.out.size; simp at this; (try simp); omega) (by decide) (by simp [beBytes_len])).mono ?_; rintro e w6 ⟨v6, rfl, hown6, hb6, hg6⟩; rw [← He3.out] at hown6; have H6 := hid hown6; have Hb6 := hid (show Below (w.heap.size + 1) (w.alloc (.cells #[.int .u32 (src : Int), .int .u32 (dst : Int), .int .i64 (proto : Int), .int .i64 (id : Int), .int .i64 off, .bool false, .bool whole, .int .i64 (ttl : Int), .slice A m cap] 35)) _ from Below.trans (by (repeat (first | (with_reducible exact Hb6.out) | (with_reducible exact Hb5.out) | (with_reducible exact Hb4.out) | (with_reducible exact Hb3.out) | (with_reducible exact Hb2.out) | (with_reducible exact Hb1.out) | (with_reducible exact Below.refl _ _) | (with_reducible refine bel1 ?_ _) | (with_reducible refine Below.drew ?_) | (with_reducible refine below_drewN ?_ _)))) hb6); clear hown6 hb6 hg6))
      go_wp2_with fail
      obtain ⟨g, cap6, hv6, q1, q2, q3⟩ := own_open H6.out (by rw [Hl3.out]; omega)
      rw [Hl3.out] at hv6
      subst hv6
      obtain ⟨_, _, _, _, _, _, kc8⟩ := keep6 Hb6.out
      obtain ⟨hc10, hf10⟩ := own_cell H6.out 10 (by rw [Hl3.out]; omega)
      obtain ⟨hc11, hf11⟩ := own_cell H6.out 11 (by rw [Hl3.out]; omega)
      obtain ⟨hown7, hg7⟩ := own_set H6.out 10 (UInt8.ofNat (S / 256)) (.int .u8 ((S : Int) / 256)) (u8_hi S hS16)
      obtain ⟨hown8, hg8⟩ := own_set hown7 11 (UInt8.ofNat S) (.int .u8 ((S : Int) % 256)) (u8_lo S)
      rw [Hset.out] at hown8
      have hne1 : ¬ g = w.heap.size := by omega
      have Hown8 := hid hown8
      have Hb8 := hid (below_own Hb6.out (grown_trans hg7 hg8) q2 (by have := Hb6.out.size; simp at this; omega))
      clear hown7 hg7 hown8 hg8 q1 q2 q3
      go_wp2_with (first
        | ((go_at_call 35; refine (rinet_any _ hdr _ H6.out.bs (by rw [Hl3.out]; omega)).mono ?_; rintro e w' ⟨rfl, rfl⟩); rw [HS.out])
        | ((with_reducible show wpList _ _ _ (Oper.mk (some 123) _ _ _ _ _ :: _) _ _); refine wpList_app8 _ rfl _ _ 23 rfl (w.heap.size + 1) 5 u8ok _ (sumAt hdr 10) rfl Hown8.out _ body rfl ((Hb.out.alloc _).below (by rw [World.size_alloc]; exact Hb8.out)) (by rw [Hl4.out, Hm.out]; omega) (by have := Hb8.out.size; simp at this; simp; omega) ?_; intro v9 w9 hown9 hb9 hg9 hat9; clear hg9 hat9; have Hown9 := hid hown9; have Hb9 := hid (Hb8.out.trans hb9); clear hown9 hb9))
      go_ret2
      exact ⟨_, rfl, Hown9.out.mono (by omega), (below_alloc w _).trans (Hb9.out.mono (by omega))⟩
  · have v9 : IntKind.i64.wrap ((o8 : Int) + 8192) = (fr : Int) := by rw [IntWalk.i64_in _ (by omega)]; omega
    have y1 : ((m : Int) == 0) = false := by simp; omega
    have y2 : ((m : Int) % 8 != 0) = false := by simp; omega
    clear hfo
    go_enter Try.func25, Try.ntmps25
    go_upto_region 10 with (fail)
    go_region_held3 (fun wr => Below (w.heap.size + 1) (w.alloc (.cells #[.int .u32 (src : Int), .int .u32 (dst : Int), .int .i64 (proto : Int), .int .i64 (id : Int), .int .i64 off, .bool true, .bool whole, .int .i64 (ttl : Int), .slice A m cap] 35)) wr ∧ wr.cell? ⟨w.heap.size, 0, none⟩ = some (.int .u32 (src : Int)) ∧ wr.cell? ⟨w.heap.size, 1, none⟩ = some (.int .u32 (dst : Int)) ∧ wr.cell? ⟨w.heap.size, 2, none⟩ = some (.int .i64 (proto : Int)) ∧ wr.cell? ⟨w.heap.size, 3, none⟩ = some (.int .i64 (id : Int)) ∧ wr.cell? ⟨w.heap.size, 7, none⟩ = some (.int .i64 (ttl : Int)) ∧ wr.cell? ⟨w.heap.size, 8, none⟩ = some (.slice A m cap)) (refine keep6 ?_ <;> (repeat (first | (with_reducible exact Hb6.out) | (with_reducible exact Hb5.out) | (with_reducible exact Hb4.out) | (with_reducible exact Hb3.out) | (with_reducible exact Hb2.out) | (with_reducible exact Hb1.out) | (with_reducible exact Below.refl _ _) | (with_reducible refine bel1 ?_ _) | (with_reducible refine Below.drew ?_) | (with_reducible refine below_drewN ?_ _)))) (first
      | (go_at_call 43; with_reducible refine (rhigh_far (.slice (some ⟨_, 0, none⟩) 2 2) [69, 0] 2 (20 + (m : Int)) 2 (20 + m) _ (w.heap.size + 1) (by (repeat (first | (with_reducible refine OwnBs.drew ?_) | (with_reducible refine OwnBs.drewN ?_ _) | (exact ownBs_litH #[.int .u8 69, .int .u8 0] [69, 0] 2 _ rfl rfl (by decide) (by simp) (by simp))))) rfl (by simp) (by simp) (by decide) (by simp)).mono ?_; rintro e w1 ⟨v1, rfl, hown1, hb1, hg1⟩; have H1 := hid hown1; have Hb1 := hid (show Below (w.heap.size + 1) (w.alloc (.cells #[.int .u32 (src : Int), .int .u32 (dst : Int), .int .i64 (proto : Int), .int .i64 (id : Int), .int .i64 off, .bool true, .bool whole, .int .i64 (ttl : Int), .slice A m cap] 35)) _ from Below.trans (by (repeat (first | (with_reducible exact Hb6.out) | (with_reducible exact Hb5.out) | (with_reducible exact Hb4.out) | (with_reducible exact Hb3.out) | (with_reducible exact Hb2.out) | (with_reducible exact Hb1.out) | (with_reducible exact Below.refl _ _) | (with_reducible refine bel1 ?_ _) | (with_reducible refine Below.drew ?_) | (with_reducible refine below_drewN ?_ _)))) hb1); clear hown1 hb1 hg1)
      | (go_at_call 43; with_reducible refine (rhigh_far v1 ([69, 0] ++ beBytes 2 (20 + m)) 2 (id : Int) 2 id _ (w.heap.size + 1) (by (repeat (first | (with_reducible exact H6.out) | (with_reducible exact H5.out) | (with_reducible exact H4.out) | (with_reducible exact H3.out) | (with_reducible exact H2.out) | (with_reducible exact H1.out) | (with_reducible refine OwnBs.drew ?_) | (with_reducible refine OwnBs.drewN ?_ _) | (with_reducible refine OwnBs.alloc ?_ _)))) rfl rfl (by have := Hb1.out.size; simp at this; (try simp); omega) (by decide) (by simp [beBytes_len])).mono ?_; rintro e w2 ⟨v2, rfl, hown2, hb2, hg2⟩; have H2 := hid hown2; have Hb2 := hid (show Below (w.heap.size + 1) (w.alloc (.cells #[.int .u32 (src : Int), .int .u32 (dst : Int), .int .i64 (proto : Int), .int .i64 (id : Int), .int .i64 off, .bool true, .bool whole, .int .i64 (ttl : Int), .slice A m cap] 35)) _ from Below.trans (by (repeat (first | (with_reducible exact Hb6.out) | (with_reducible exact Hb5.out) | (with_reducible exact Hb4.out) | (with_reducible exact Hb3.out) | (with_reducible exact Hb2.out) | (with_reducible exact Hb1.out) | (with_reducible exact Below.refl _ _) | (with_reducible refine bel1 ?_ _) | (with_reducible refine Below.drew ?_) | (with_reducible refine below_drewN ?_ _)))) hb2); clear hown2 hb2 hg2))
    go_upto_region 11 with (fail)
    go_region_held3 (fun wr => Below (w.heap.size + 1) (w.alloc (.cells #[.int .u32 (src : Int), .int .u32 (dst : Int), .int .i64 (proto : Int), .int .i64 (id : Int), .int .i64 off, .bool true, .bool whole, .int .i64 (ttl : Int), .slice A m cap] 35)) wr ∧ wr.cell? ⟨w.heap.size, 0, none⟩ = some (.int .u32 (src : Int)) ∧ wr.cell? ⟨w.heap.size, 1, none⟩ = some (.int .u32 (dst : Int)) ∧ wr.cell? ⟨w.heap.size, 2, none⟩ = some (.int .i64 (proto : Int)) ∧ wr.cell? ⟨w.heap.size, 3, none⟩ = some (.int .i64 (id : Int)) ∧ wr.cell? ⟨w.heap.size, 7, none⟩ = some (.int .i64 (ttl : Int)) ∧ wr.cell? ⟨w.heap.size, 8, none⟩ = some (.slice A m cap)) (refine keep6 ?_ <;> (repeat (first | (with_reducible exact Hb6.out) | (with_reducible exact Hb5.out) | (with_reducible exact Hb4.out) | (with_reducible exact Hb3.out) | (with_reducible exact Hb2.out) | (with_reducible exact Hb1.out) | (with_reducible exact Below.refl _ _) | (with_reducible refine bel1 ?_ _) | (with_reducible refine Below.drew ?_) | (with_reducible refine below_drewN ?_ _)))) (first
      | (go_at_call 43; with_reducible refine (rhigh_far v2 ([69, 0] ++ beBytes 2 (20 + m) ++ beBytes 2 id) 2 (fr : Int) 2 fr _ (w.heap.size + 1) (by (repeat (first | (with_reducible exact H6.out) | (with_reducible exact H5.out) | (with_reducible exact H4.out) | (with_reducible exact H3.out) | (with_reducible exact H2.out) | (with_reducible exact H1.out) | (with_reducible refine OwnBs.drew ?_) | (with_reducible refine OwnBs.drewN ?_ _) | (with_reducible refine OwnBs.alloc ?_ _)))) rfl rfl (by have := Hb2.out.size; simp at this; (try simp); omega) (by decide) (by simp [beBytes_len])).mono ?_; rintro e w3 ⟨v3, rfl, hown3, hb3, hg3⟩; have H3 := hid hown3; have Hb3 := hid (show Below (w.heap.size + 1) (w.alloc (.cells #[.int .u32 (src : Int), .int .u32 (dst : Int), .int .i64 (proto : Int), .int .i64 (id : Int), .int .i64 off, .bool true, .bool whole, .int .i64 (ttl : Int), .slice A m cap] 35)) _ from Below.trans (by (repeat (first | (with_reducible exact Hb6.out) | (with_reducible exact Hb5.out) | (with_reducible exact Hb4.out) | (with_reducible exact Hb3.out) | (with_reducible exact Hb2.out) | (with_reducible exact Hb1.out) | (with_reducible exact Below.refl _ _) | (with_reducible refine bel1 ?_ _) | (with_reducible refine Below.drew ?_) | (with_reducible refine below_drewN ?_ _)))) hb3); (first | (have HLb := hid (bs_lit_far (t := 5) #[.int .u8 (ttl : Int), .int .u8 (proto : Int), .int .u8 0, .int .u8 0] [UInt8.ofNat ttl, UInt8.ofNat proto, 0, 0] 4 H2.out hg3 (Blk.drew (Blk.new _ _ #[.int .u8 (ttl : Int), .int .u8 (proto : Int), .int .u8 0, .int .u8 0])) Hlx.out rfl (by decide))) | (have HLb := hid (bs_lit_far (t := 5) #[.int .u8 (ttl : Int), .int .u8 (proto : Int), .int .u8 0, .int .u8 0] [UInt8.ofNat ttl, UInt8.ofNat proto, 0, 0] 4 H2.out hg3 (Blk.new _ _ #[.int .u8 (ttl : Int), .int .u8 (proto : Int), .int .u8 0, .int .u8 0]) Hlx.out rfl (by decide))) | (have HLb := hid (bs_lit_far (t := 5) #[.int .u8 (ttl : Int), .int .u8 (proto : Int), .int .u8 0, .int .u8 0] [UInt8.ofNat ttl, UInt8.ofNat proto, 0, 0] 4 H2.out hg3 (Blk.drew (Blk.drew (Blk.new _ _ #[.int .u8 (ttl : Int), .int .u8 (proto : Int), .int .u8 0, .int .u8 0]))) Hlx.out rfl (by decide))) | skip); clear hown3 hb3 hg3)
      | (refine step_app8 _ (by rfl) _ _ 23 (by rfl) (w.heap.size + 1) 5 u8ok v3 ([69, 0] ++ beBytes 2 (20 + m) ++ beBytes 2 id ++ beBytes 2 fr) (by rfl) (by (repeat (first | (with_reducible exact H6.out) | (with_reducible exact H5.out) | (with_reducible exact H4.out) | (with_reducible exact H3.out) | (with_reducible exact H2.out) | (with_reducible exact H1.out) | (with_reducible refine OwnBs.drew ?_) | (with_reducible refine OwnBs.drewN ?_ _) | (with_reducible refine OwnBs.alloc ?_ _)))) (.slice (some ⟨_, 0, none⟩) 4 4) [UInt8.ofNat ttl, UInt8.ofNat proto, 0, 0] (by rfl) (by (repeat (first | (with_reducible exact HLb.out) | (with_reducible refine Bs.drew ?_) | (with_reducible refine Bs.drewN ?_ _) | (exact bs_litm #[.int .u8 (ttl : Int), .int .u8 (proto : Int), .int .u8 0, .int .u8 0] [UInt8.ofNat ttl, UInt8.ofNat proto, 0, 0] 4 _ Hlx.out rfl (by decide) (by simp))))) (by simp [beBytes_len]) (by have := Hb3.out.size; simp at this; (try simp); omega) ?_; intro v4 w4 hown4 hb4 hg4; have H4 := hid hown4; have Hb4 := hid (show Below (w.heap.size + 1) (w.alloc (.cells #[.int .u32 (src : Int), .int .u32 (dst : Int), .int .i64 (proto : Int), .int .i64 (id : Int), .int .i64 off, .bool true, .bool whole, .int .i64 (ttl : Int), .slice A m cap] 35)) _ from Below.trans (by (repeat (first | (with_reducible exact Hb6.out) | (with_reducible exact Hb5.out) | (with_reducible exact Hb4.out) | (with_reducible exact Hb3.out) | (with_reducible exact Hb2.out) | (with_reducible exact Hb1.out) | (with_reducible exact Below.refl _ _) | (with_reducible refine bel1 ?_ _) | (with_reducible refine Below.drew ?_) | (with_reducible refine below_drewN ?_ _)))) hb4); clear hown4 hb4 hg4))
    all_goals
      go_upto_region 12 with (fail)
      go_region_held3 (fun wr => Below (w.heap.size + 1) (w.alloc (.cells #[.int .u32 (src : Int), .int .u32 (dst : Int), .int .i64 (proto : Int), .int .i64 (id : Int), .int .i64 off, .bool true, .bool whole, .int .i64 (ttl : Int), .slice A m cap] 35)) wr ∧ wr.cell? ⟨w.heap.size, 0, none⟩ = some (.int .u32 (src : Int)) ∧ wr.cell? ⟨w.heap.size, 1, none⟩ = some (.int .u32 (dst : Int)) ∧ wr.cell? ⟨w.heap.size, 2, none⟩ = some (.int .i64 (proto : Int)) ∧ wr.cell? ⟨w.heap.size, 3, none⟩ = some (.int .i64 (id : Int)) ∧ wr.cell? ⟨w.heap.size, 7, none⟩ = some (.int .i64 (ttl : Int)) ∧ wr.cell? ⟨w.heap.size, 8, none⟩ = some (.slice A m cap)) (refine keep6 ?_ <;> (repeat (first | (with_reducible exact Hb6.out) | (with_reducible exact Hb5.out) | (with_reducible exact Hb4.out) | (with_reducible exact Hb3.out) | (with_reducible exact Hb2.out) | (with_reducible exact Hb1.out) | (with_reducible exact Below.refl _ _) | (with_reducible refine bel1 ?_ _) | (with_reducible refine Below.drew ?_) | (with_reducible refine below_drewN ?_ _)))) (first
      | (go_at_call 43; with_reducible refine (rhigh_far v4 ([69, 0] ++ beBytes 2 (20 + m) ++ beBytes 2 id ++ beBytes 2 fr ++ [UInt8.ofNat ttl, UInt8.ofNat proto, 0, 0]) 4 (src : Int) 4 src _ (w.heap.size + 1) (by (repeat (first | (with_reducible exact H6.out) | (with_reducible exact H5.out) | (with_reducible exact H4.out) | (with_reducible exact H3.out) | (with_reducible exact H2.out) | (with_reducible exact H1.out) | (with_reducible refine OwnBs.drew ?_) | (with_reducible refine OwnBs.drewN ?_ _) | (with_reducible refine OwnBs.alloc ?_ _)))) rfl rfl (by have := Hb4.out.size; simp at this; (try simp); omega) (by decide) (by simp [beBytes_len])).mono ?_; rintro e w5 ⟨v5, rfl, hown5, hb5, hg5⟩; have H5 := hid hown5; have Hb5 := hid (show Below (w.heap.size + 1) (w.alloc (.cells #[.int .u32 (src : Int), .int .u32 (dst : Int), .int .i64 (proto : Int), .int .i64 (id : Int), .int .i64 off, .bool true, .bool whole, .int .i64 (ttl : Int), .slice A m cap] 35)) _ from Below.trans (by (repeat (first | (with_reducible exact Hb6.out) | (with_reducible exact Hb5.out) | (with_reducible exact Hb4.out) | (with_reducible exact Hb3.out) | (with_reducible exact Hb2.out) | (with_reducible exact Hb1.out) | (with_reducible exact Below.refl _ _) | (with_reducible refine bel1 ?_ _) | (with_reducible refine Below.drew ?_) | (with_reducible refine below_drewN ?_ _)))) hb5); clear hown5 hb5 hg5)
      | (go_at_call 43; with_reducible refine (rhigh_far v5 ([69, 0] ++ beBytes 2 (20 + m) ++ beBytes 2 id ++ beBytes 2 fr ++ [UInt8.ofNat ttl, UInt8.ofNat proto, 0, 0] ++ beBytes 4 src) 4 (dst : Int) 4 dst _ (w.heap.size + 1) (by (repeat (first | (with_reducible exact H6.out) | (with_reducible exact H5.out) | (with_reducible exact H4.out) | (with_reducible exact H3.out) | (with_reducible exact H2.out) | (with_reducible exact H1.out) | (with_reducible refine OwnBs.drew ?_) | (with_reducible refine OwnBs.drewN ?_ _) | (with_reducible refine OwnBs.alloc ?_ _)))) rfl rfl (by have := Hb5.out.size; simp at this; (try simp); omega) (by decide) (by simp [beBytes_len])).mono ?_; rintro e w6 ⟨v6, rfl, hown6, hb6, hg6⟩; rw [← He3.out] at hown6; have H6 := hid hown6; have Hb6 := hid (show Below (w.heap.size + 1) (w.alloc (.cells #[.int .u32 (src : Int), .int .u32 (dst : Int), .int .i64 (proto : Int), .int .i64 (id : Int), .int .i64 off, .bool true, .bool whole, .int .i64 (ttl : Int), .slice A m cap] 35)) _ from Below.trans (by (repeat (first | (with_reducible exact Hb6.out) | (with_reducible exact Hb5.out) | (with_reducible exact Hb4.out) | (with_reducible exact Hb3.out) | (with_reducible exact Hb2.out) | (with_reducible exact Hb1.out) | (with_reducible exact Below.refl _ _) | (with_reducible refine bel1 ?_ _) | (with_reducible refine Below.drew ?_) | (with_reducible refine below_drewN ?_ _)))) hb6); clear hown6 hb6 hg6))
      go_wp2_with fail
      obtain ⟨g, cap6, hv6, q1, q2, q3⟩ := own_open H6.out (by rw [Hl3.out]; omega)
      rw [Hl3.out] at hv6
      subst hv6
      obtain ⟨_, _, _, _, _, _, kc8⟩ := keep6 Hb6.out
      obtain ⟨hc10, hf10⟩ := own_cell H6.out 10 (by rw [Hl3.out]; omega)
      obtain ⟨hc11, hf11⟩ := own_cell H6.out 11 (by rw [Hl3.out]; omega)
      obtain ⟨hown7, hg7⟩ := own_set H6.out 10 (UInt8.ofNat (S / 256)) (.int .u8 ((S : Int) / 256)) (u8_hi S hS16)
      obtain ⟨hown8, hg8⟩ := own_set hown7 11 (UInt8.ofNat S) (.int .u8 ((S : Int) % 256)) (u8_lo S)
      rw [Hset.out] at hown8
      have hne1 : ¬ g = w.heap.size := by omega
      have Hown8 := hid hown8
      have Hb8 := hid (below_own Hb6.out (grown_trans hg7 hg8) q2 (by have := Hb6.out.size; simp at this; omega))
      clear hown7 hg7 hown8 hg8 q1 q2 q3
      go_wp2_with (first
        | ((go_at_call 35; refine (rinet_any _ hdr _ H6.out.bs (by rw [Hl3.out]; omega)).mono ?_; rintro e w' ⟨rfl, rfl⟩); rw [HS.out])
        | ((with_reducible show wpList _ _ _ (Oper.mk (some 123) _ _ _ _ _ :: _) _ _); refine wpList_app8 _ rfl _ _ 23 rfl (w.heap.size + 1) 5 u8ok _ (sumAt hdr 10) rfl Hown8.out _ body rfl ((Hb.out.alloc _).below (by rw [World.size_alloc]; exact Hb8.out)) (by rw [Hl4.out, Hm.out]; omega) (by have := Hb8.out.size; simp at this; simp; omega) ?_; intro v9 w9 hown9 hb9 hg9 hat9; clear hg9 hat9; have Hown9 := hid hown9; have Hb9 := hid (Hb8.out.trans hb9); clear hown9 hb9))
      go_ret2
      exact ⟨_, rfl, Hown9.out.mono (by omega), (below_alloc w _).trans (Hb9.out.mono (by omega))⟩

set_option maxHeartbeats 4000000 in
theorem rWrite_size (v : Value) (p : Pk) (w : World) (h : Bs w v p.body) (hl : p.body.length ≤ 1099511627776) (hb : ¬ ipBadArg p) (hz : ipBadSize p) :
    Calls Try.prog 25 #[.agg (pkCells p v).toArray] w fun e w' => ∃ v', e = .returned (.tuple #[v', .int .i64 14]) ∧ OwnBs w' w.heap.size 5 v' [] ∧ Below w.heap.size w w' := by
  obtain ⟨src, dst, proto, id, off, more, whole, ttl, body⟩ := p
  unfold ipBadArg at hb
  obtain ⟨h1, h2⟩ := hz
  simp only at hb hl h h1 h2
  obtain ⟨m, hm⟩ : ∃ m, body.length = m := ⟨_, rfl⟩
  obtain ⟨A, cap, rfl⟩ := slice_len h hm
  rw [hm] at hl h2
  clear h hm
  dsimp only [pkCells]
  subst h1
  have a1 : ¬ proto < 0 := by omega
  have a2 : ¬ proto > 255 := by omega
  have a3 : ¬ ttl < 0 := by omega
  have a4 : ¬ ttl > 255 := by omega
  have a5 : ¬ id < 0 := by omega
  have a6 : ¬ id > 65535 := by omega
  have a7 : ¬ off < 0 := by omega
  have a8 : ¬ off > 65528 := by omega
  have z1 : off.tmod 8 = off % 8 := by rw [Int.tmod_eq_emod_of_nonneg (by omega)]
  have z2 : (off % 8 != 0) = false := by simp; omega
  have z4 : (m : Int).tmod 8 = (m : Int) % 8 := by rw [Int.tmod_eq_emod_of_nonneg (by omega)]
  have hb' := hid hb
  clear hb
  by_cases y : m = 0
  · have y1 : ((m : Int) == 0) = true := by simp; omega
    clear h2
    (go_enter Try.func25, Try.ntmps25; go_wp2_with fail; go_ret2; exact ⟨_, rfl, OwnBs.nil _ _ _, below_alloc _ _⟩)
  · have y1 : ((m : Int) == 0) = false := by simp; omega
    have y2 : ((m : Int) % 8 != 0) = true := by simp; omega
    clear h2
    (go_enter Try.func25, Try.ntmps25; go_wp2_with fail; go_ret2; exact ⟨_, rfl, OwnBs.nil _ _ _, below_alloc _ _⟩)

set_option maxHeartbeats 4000000 in
theorem rWrite_long (v : Value) (p : Pk) (w : World) (h : Bs w v p.body) (hl : p.body.length ≤ 1099511627776) (hb : ¬ ipBadArg p) (hz : ¬ ipBadSize p) (hlo : p.body.length > 65515) :
    Calls Try.prog 25 #[.agg (pkCells p v).toArray] w fun e w' => ∃ v', e = .returned (.tuple #[v', .int .i64 5]) ∧ OwnBs w' w.heap.size 5 v' [] ∧ Below w.heap.size w w' := by
  obtain ⟨src, dst, proto, id, off, more, whole, ttl, body⟩ := p
  unfold ipBadArg at hb
  unfold ipBadSize at hz
  simp only at hb hl h hz hlo
  obtain ⟨m, hm⟩ : ∃ m, body.length = m := ⟨_, rfl⟩
  obtain ⟨A, cap, rfl⟩ := slice_len h hm
  rw [hm] at hl hz hlo
  clear h hm
  dsimp only [pkCells]
  have a1 : ¬ proto < 0 := by omega
  have a2 : ¬ proto > 255 := by omega
  have a3 : ¬ ttl < 0 := by omega
  have a4 : ¬ ttl > 255 := by omega
  have a5 : ¬ id < 0 := by omega
  have a6 : ¬ id > 65535 := by omega
  have a7 : ¬ off < 0 := by omega
  have a8 : ¬ off > 65528 := by omega
  have z1 : off.tmod 8 = off % 8 := by rw [Int.tmod_eq_emod_of_nonneg (by omega)]
  have z2 : (off % 8 != 0) = false := by simp; omega
  have z4 : (m : Int).tmod 8 = (m : Int) % 8 := by rw [Int.tmod_eq_emod_of_nonneg (by omega)]
  have a9 : (m : Int) > 65515 := by omega
  have hb' := hid hb
  clear hb
  cases hmo : more
  · clear hz
    (go_enter Try.func25, Try.ntmps25; go_wp2_with fail; go_ret2; exact ⟨_, rfl, OwnBs.nil _ _ _, below_alloc _ _⟩)
  · have hz2 : ¬ (m = 0 ∨ m % 8 ≠ 0) := fun hh => hz ⟨hmo, hh⟩
    have y1 : ((m : Int) == 0) = false := by simp; omega
    have y2 : ((m : Int) % 8 != 0) = false := by simp; omega
    clear hz hz2
    (go_enter Try.func25, Try.ntmps25; go_wp2_with fail; go_ret2; exact ⟨_, rfl, OwnBs.nil _ _ _, below_alloc _ _⟩)

theorem rWrite_any (v : Value) (p : Pk) (w : World) (h : Bs w v p.body) (hl : p.body.length ≤ 1099511627776) (hs : p.src < 4294967296) (hd : p.dst < 4294967296) :
    Calls Try.prog 25 #[.agg (pkCells p v).toArray] w fun e w' => ∃ v', e = .returned (.tuple #[v', .int .i64 (ipWrite p).2]) ∧ OwnBs w' w.heap.size 5 v' (ipWrite p).1 ∧ Below w.heap.size w w' := by
  unfold ipWrite
  by_cases hb : ipBadArg p
  · rw [if_pos hb]; exact rWrite_bad v p w h hl hb
  rw [if_neg hb]
  by_cases hz : ipBadSize p
  · rw [if_pos hz]; exact rWrite_size v p w h hl hb hz
  rw [if_neg hz]
  by_cases hlo : p.body.length > 65515
  · rw [if_pos hlo]; exact rWrite_long v p w h hl hb hz hlo
  rw [if_neg hlo]
  obtain ⟨proto, id, o8, ttl, he, h1, h2, h3, h4⟩ := pk_nat hb
  have := rWrite_ok v p.src p.dst proto id o8 ttl p.more p.whole p.body p.body.length rfl w h hs hd h1 h2 h3 h4 (fun hm => by
    unfold ipBadSize at hz
    have : ¬ (p.body.length = 0 ∨ p.body.length % 8 ≠ 0) := fun hh => hz ⟨hm, hh⟩
    omega) (by omega)
  rw [he]
  exact this
end Go.Proofs.Ytbjiicnagfeciaa
