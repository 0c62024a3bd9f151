/- What is written as a packet is read as it; what is cut or turned is not. Plain law, no program in sight. -/
import Derived.Test.YtbjiicnagfeciaaIpPE
import Derived.Test.YtbjiicnagfeciaaNumCheckL
namespace Go.Proofs.Ytbjiicnagfeciaa
open Go Go.RowKit

theorem beBytes_rev (n v : Nat) : beBytes n v = (leBytes n v).reverse := by
  apply List.ext_getElem
  · simp [beBytes, leBytes]
  · intro i h1 h2
    have hi : i < n := by simpa [beBytes] using h1
    simp [beBytes, leBytes]
theorem leBytes_succ (n v : Nat) : leBytes (n + 1) v = UInt8.ofNat v :: leBytes n (v / 256) := by
  apply List.ext_getElem
  · simp [leBytes]
  · intro i h1 h2
    cases i with
    | zero => simp [leBytes]
    | succ i => simp [leBytes, Nat.pow_succ, Nat.div_div_eq_div_mul, Nat.mul_comm]
theorem leVal_leBytes (n v : Nat) (h : v < 256 ^ n) : leVal (leBytes n v) = v := by
  induction n generalizing v with
  | zero => simp at h; subst h; rfl
  | succ n ih =>
    rw [leBytes_succ, leVal_cons, ih (v / 256) (by rw [Nat.pow_succ] at h; exact Nat.div_lt_of_lt_mul (by omega))]
    simp only [UInt8.toNat_ofNat']
    omega
theorem beVal_beBytes (n v : Nat) (h : v < 256 ^ n) : beVal (beBytes n v) = v := by
  rw [beBytes_rev]
  exact leVal_leBytes n v h
theorem getD_mid (X Y : List UInt8) (i : Nat) (x d : UInt8) (h : X.length = i) : (X ++ x :: Y).getD i d = x := by
  subst h
  simp [List.getD]
theorem uAt_mid (X Y : List UInt8) (n v i : Nat) (h : X.length = i) (hv : v < 256 ^ n) : uAt (X ++ (beBytes n v ++ Y)) i n = v := by
  unfold uAt
  rw [List.drop_left' h, List.take_left' (beBytes_len _ _), beVal_beBytes _ _ hv]
theorem ipSum_form (p : Pk) : ∃ a b, sumAt (ipHead p) 10 = [69, 0] ++ (beBytes 2 (20 + p.body.length) ++ (beBytes 2 p.id.toNat ++ (beBytes 2 (ipFrag p.off p.more) ++ (UInt8.ofNat p.ttl.toNat :: UInt8.ofNat p.proto.toNat :: a :: b :: (beBytes 4 p.src ++ beBytes 4 p.dst))))) := by
  rw [← ipHead_set]
  generalize inet (ipHead p) = S
  refine ⟨UInt8.ofNat (S / 256), UInt8.ofNat S, ?_⟩
  unfold ipHead
  have h8 : ([69, 0] ++ (beBytes 2 (20 + p.body.length) ++ beBytes 2 p.id.toNat ++ beBytes 2 (ipFrag p.off p.more)) : List UInt8).length = 8 := by simp [beBytes_len]
  rw [show [69, 0] ++ (beBytes 2 (20 + p.body.length) ++ (beBytes 2 p.id.toNat ++ (beBytes 2 (ipFrag p.off p.more) ++ (UInt8.ofNat p.ttl.toNat :: UInt8.ofNat p.proto.toNat :: UInt8.ofNat (S / 256) :: UInt8.ofNat S :: (beBytes 4 p.src ++ beBytes 4 p.dst)))))
    = ([69, 0] ++ (beBytes 2 (20 + p.body.length) ++ beBytes 2 p.id.toNat ++ beBytes 2 (ipFrag p.off p.more))) ++ (UInt8.ofNat p.ttl.toNat :: UInt8.ofNat p.proto.toNat :: UInt8.ofNat (S / 256) :: UInt8.ofNat S :: (beBytes 4 p.src ++ beBytes 4 p.dst)) by simp]
  generalize [69, 0] ++ (beBytes 2 (20 + p.body.length) ++ beBytes 2 p.id.toNat ++ beBytes 2 (ipFrag p.off p.more)) = H at *
  match H, h8 with
  | [_, _, _, _, _, _, _, _], _ => rfl

/-- bytes of twenty or more that begin as a packet without options -/
theorem parse_head (L : List UInt8) (h : 20 ≤ L.length) (h0 : L.getD 0 0 = 69) :
    ipParse L = if uAt L 2 2 < 20 then (pk0, 15) else if L.length < uAt L 2 2 then (pk0, 11) else if inet (L.take 20) ≠ 0 then (pk0, 13) else (ipRead L 20 (uAt L 2 2), 0) := by
  unfold ipParse
  rw [if_neg (by omega), h0]
  have e1 : (69 : UInt8).toNat = 69 := rfl
  rw [e1, if_neg (by decide), if_neg (by omega)]

structure IpOk (p : Pk) : Prop where
  src : p.src < 4294967296
  dst : p.dst < 4294967296
  arg : ¬ ipBadArg p
  len : p.body.length ≤ 65515
theorem ip_head {p : Pk} (h : IpOk p) (T : List UInt8) :
    (sumAt (ipHead p) 10 ++ T).getD 0 0 = 69 ∧ uAt (sumAt (ipHead p) 10 ++ T) 2 2 = 20 + p.body.length ∧ uAt (sumAt (ipHead p) 10 ++ T) 4 2 = p.id.toNat ∧ uAt (sumAt (ipHead p) 10 ++ T) 6 2 = ipFrag p.off p.more ∧
      (sumAt (ipHead p) 10 ++ T).getD 8 0 = UInt8.ofNat p.ttl.toNat ∧ (sumAt (ipHead p) 10 ++ T).getD 9 0 = UInt8.ofNat p.proto.toNat ∧ uAt (sumAt (ipHead p) 10 ++ T) 12 4 = p.src ∧ uAt (sumAt (ipHead p) 10 ++ T) 16 4 = p.dst := by
  obtain ⟨a, b, e⟩ := ipSum_form p
  have ha := h.arg
  unfold ipBadArg at ha
  have hl := h.len
  have hf : ipFrag p.off p.more < 256 ^ 2 := by unfold ipFrag; split <;> omega
  have hid : p.id.toNat < 256 ^ 2 := by omega
  have hn : 20 + p.body.length < 256 ^ 2 := by omega
  clear ha
  rw [e]
  refine ⟨rfl, ?_, ?_, ?_, ?_, ?_, ?_, ?_⟩
  · have := uAt_mid [69, 0] ((beBytes 2 p.id.toNat ++ (beBytes 2 (ipFrag p.off p.more) ++ (UInt8.ofNat p.ttl.toNat :: UInt8.ofNat p.proto.toNat :: a :: b :: (beBytes 4 p.src ++ beBytes 4 p.dst)))) ++ T) 2 (20 + p.body.length) 2 rfl hn
    simpa [List.append_assoc] using this
  · have := uAt_mid ([69, 0] ++ beBytes 2 (20 + p.body.length)) ((beBytes 2 (ipFrag p.off p.more) ++ (UInt8.ofNat p.ttl.toNat :: UInt8.ofNat p.proto.toNat :: a :: b :: (beBytes 4 p.src ++ beBytes 4 p.dst))) ++ T) 2 p.id.toNat 4 (by simp [beBytes_len]) hid
    simpa [List.append_assoc] using this
  · have := uAt_mid ([69, 0] ++ beBytes 2 (20 + p.body.length) ++ beBytes 2 p.id.toNat) ((UInt8.ofNat p.ttl.toNat :: UInt8.ofNat p.proto.toNat :: a :: b :: (beBytes 4 p.src ++ beBytes 4 p.dst)) ++ T) 2 (ipFrag p.off p.more) 6 (by simp [beBytes_len]) hf
    simpa [List.append_assoc] using this
  · have := getD_mid ([69, 0] ++ beBytes 2 (20 + p.body.length) ++ beBytes 2 p.id.toNat ++ beBytes 2 (ipFrag p.off p.more)) ((UInt8.ofNat p.proto.toNat :: a :: b :: (beBytes 4 p.src ++ beBytes 4 p.dst)) ++ T) 8 (UInt8.ofNat p.ttl.toNat) 0 (by simp [beBytes_len])
    simpa [List.append_assoc] using this
  · have := getD_mid ([69, 0] ++ beBytes 2 (20 + p.body.length) ++ beBytes 2 p.id.toNat ++ beBytes 2 (ipFrag p.off p.more) ++ [UInt8.ofNat p.ttl.toNat]) ((a :: b :: (beBytes 4 p.src ++ beBytes 4 p.dst)) ++ T) 9 (UInt8.ofNat p.proto.toNat) 0 (by simp [beBytes_len])
    simpa [List.append_assoc] using this
  · have := uAt_mid ([69, 0] ++ beBytes 2 (20 + p.body.length) ++ beBytes 2 p.id.toNat ++ beBytes 2 (ipFrag p.off p.more) ++ [UInt8.ofNat p.ttl.toNat, UInt8.ofNat p.proto.toNat, a, b]) (beBytes 4 p.dst ++ T) 4 p.src 12 (by simp [beBytes_len]) h.src
    simpa [List.append_assoc] using this
  · have := uAt_mid ([69, 0] ++ beBytes 2 (20 + p.body.length) ++ beBytes 2 p.id.toNat ++ beBytes 2 (ipFrag p.off p.more) ++ [UInt8.ofNat p.ttl.toNat, UInt8.ofNat p.proto.toNat, a, b] ++ beBytes 4 p.src) T 4 p.dst 16 (by simp [beBytes_len]) h.dst
    simpa [List.append_assoc] using this

theorem sum_len (p : Pk) : (sumAt (ipHead p) 10).length = 20 := by rw [sumAt_len, ipHead_len]
theorem ipFull_len (p : Pk) : (ipFull p).length = 20 + p.body.length := by unfold ipFull; simp [sum_len]
theorem sum_inet (p : Pk) : inet (sumAt (ipHead p) 10) = 0 := inet_sumAt _ _ (by rw [ipHead_len]; omega) (by decide)

theorem ip_back {p : Pk} (h : IpOk p) (more : List UInt8) :
    ipParse (ipFull p ++ more) = (⟨p.src, p.dst, p.proto, p.id, p.off, p.more, decide (p.off = 0) && !p.more, p.ttl, p.body⟩, 0) := by
  have ha := h.arg
  unfold ipBadArg at ha
  have hl := h.len
  have e : ipFull p ++ more = sumAt (ipHead p) 10 ++ (p.body ++ more) := by unfold ipFull; simp
  rw [e]
  obtain ⟨k0, k2, k4, k6, k8, k9, k12, k16⟩ := ip_head h (p.body ++ more)
  have hlen : (sumAt (ipHead p) 10 ++ (p.body ++ more)).length = 20 + p.body.length + more.length := by simp [sum_len]; omega
  rw [parse_head _ (by omega) k0, k2, if_neg (by omega), if_neg (by omega), List.take_left' (sum_len p), if_neg (by rw [sum_inet]; simp)]
  unfold ipRead
  rw [k4, k6, k8, k9, k12, k16]
  have hb : ((sumAt (ipHead p) 10 ++ (p.body ++ more)).take (20 + p.body.length)).drop 20 = p.body := by
    rw [← List.append_assoc, List.take_left' (by simp [sum_len]), List.drop_left' (sum_len p)]
  rw [hb]
  have d1 : decide (ipFrag p.off p.more / 8192 % 2 = 1) = p.more := by
    unfold ipFrag
    cases p.more
    · simp; omega
    · simp; omega
  have d2 : ((ipFrag p.off p.more % 8192 * 8 : Nat) : Int) = p.off := by
    unfold ipFrag
    cases p.more
    · simp; omega
    · simp; omega
  have d3 : decide (ipFrag p.off p.more % 8192 = 0) = decide (p.off = 0) := by
    congr 1
    simp only [eq_iff_iff]
    omega
  have d4 : (((UInt8.ofNat p.ttl.toNat).toNat : Nat) : Int) = p.ttl := by rw [UInt8.toNat_ofNat']; omega
  have d5 : (((UInt8.ofNat p.proto.toNat).toNat : Nat) : Int) = p.proto := by rw [UInt8.toNat_ofNat']; omega
  have d6 : ((p.id.toNat : Nat) : Int) = p.id := by omega
  rw [d1, d2, d3, d4, d5, d6]

theorem ip_cut {p : Pk} (h : IpOk p) (k : Nat) (hk : k < (ipFull p).length) : ipParse ((ipFull p).take k) = (pk0, 11) := by
  have hl := h.len
  rw [ipFull_len] at hk
  by_cases h20 : k < 20
  · unfold ipParse
    rw [if_pos (by simp; omega)]
  have e : (ipFull p).take k = sumAt (ipHead p) 10 ++ p.body.take (k - 20) := by
    unfold ipFull
    rw [List.take_append, sum_len, List.take_of_length_le (by rw [sum_len]; omega)]
  rw [e]
  obtain ⟨k0, k2, _⟩ := ip_head h (p.body.take (k - 20))
  have hlen : (sumAt (ipHead p) 10 ++ p.body.take (k - 20)).length = k := by simp [sum_len]; omega
  rw [parse_head _ (by omega) k0, k2, if_neg (by omega), if_pos (by omega)]

theorem ip_turned {p : Pk} (h : IpOk p) (k : Nat) (y : UInt8) (h1 : 1 ≤ k) (hk : k < 20) (hk2 : k < (ipFull p).length) (hy : (ipFull p)[k] ≠ y) : (ipParse ((ipFull p).set k y)).2 ≠ 0 := by
  have hl : (ipFull p).length = 20 + p.body.length := ipFull_len p
  have h0 : ((ipFull p).set k y).getD 0 0 = 69 := by
    have := (ip_head h p.body).1
    change (ipFull p).getD 0 0 = 69 at this
    rw [← this]
    simp only [List.getD, List.getElem?_set]
    rw [if_neg (by omega)]
  rw [parse_head _ (by simp; omega) h0]
  have ht : inet (((ipFull p).set k y).take 20) ≠ 0 := by
    have e : ((ipFull p).set k y).take 20 = (sumAt (ipHead p) 10).set k y := by
      rw [List.take_set]
      congr 1
    have hk3 : k < (sumAt (ipHead p) 10).length := by rw [sum_len]; exact hk
    have hy2 : (sumAt (ipHead p) 10)[k] ≠ y := by
      have : (ipFull p)[k] = (sumAt (ipHead p) 10)[k] := by unfold ipFull; exact List.getElem_append_left hk3
      rwa [← this]
    rw [e, set_split _ k y hk3]
    refine inet_turned _ _ _ _ hy2 ?_
    rw [← split_at _ k hk3]
    exact sum_inet p
  split
  · decide
  split
  · decide
  · first
      | decide
      | (rw [if_pos ht]; decide)
end Go.Proofs.Ytbjiicnagfeciaa
