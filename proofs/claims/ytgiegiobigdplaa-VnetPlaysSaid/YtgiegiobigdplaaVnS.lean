/- The two queues in memory, and the card and the port over them, as plain functions. No program is named here. -/
import Derived.Test.YtgiegiobigdplaaNumSpec
namespace Go.Proofs.Ytgiegiobigdplaa

/-- a piece of memory is written -/
def patch (M : List UInt8) (p : Nat) (b : List UInt8) : List UInt8 := M.take p ++ (b ++ M.drop (p + b.length))
/-- a number of memory -/
def leAt (M : List UInt8) (p k : Nat) : Nat := leVal ((M.drop p).take k)
def putAt (M : List UInt8) (p k v : Nat) : List UInt8 := patch M p (leBytes k v)

theorem patch_len {M : List UInt8} {p : Nat} {b : List UInt8} (h : p + b.length ≤ M.length) : (patch M p b).length = M.length := by
  unfold patch
  simp
  omega
theorem putAt_len {M : List UInt8} {p k v : Nat} (h : p + k ≤ M.length) : (putAt M p k v).length = M.length := patch_len (by rw [leBytes_len]; exact h)
/-- what lies apart stays -/
theorem patch_apart {M : List UInt8} {p : Nat} {b : List UInt8} {q k : Nat} (h : p + b.length ≤ M.length) (ha : q + k ≤ p ∨ p + b.length ≤ q) : ((patch M p b).drop q).take k = (M.drop q).take k := by
  apply List.ext_getElem?
  intro i
  rw [List.getElem?_take, List.getElem?_take]
  split
  · rw [List.getElem?_drop, List.getElem?_drop]
    unfold patch
    rcases ha with ha | ha
    · rw [List.getElem?_append_left (by simp; omega), List.getElem?_take, if_pos (by omega)]
    · rw [List.getElem?_append_right (by simp; omega), List.getElem?_append_right (by simp; omega), List.getElem?_drop]
      congr 1
      simp
      omega
  · rfl
/-- what was written is read -/
theorem patch_same {M : List UInt8} {p : Nat} {b : List UInt8} (h : p + b.length ≤ M.length) : ((patch M p b).drop p).take b.length = b := by
  unfold patch
  rw [List.drop_append_of_le_length (by simp; omega), List.drop_take, Nat.sub_self]
  simp
theorem leAt_apart {M : List UInt8} {p : Nat} {b : List UInt8} {q k : Nat} (h : p + b.length ≤ M.length) (ha : q + k ≤ p ∨ p + b.length ≤ q) : leAt (patch M p b) q k = leAt M q k := by
  unfold leAt
  rw [patch_apart h ha]
theorem leAt_put {M : List UInt8} {p k v q j : Nat} (h : p + k ≤ M.length) (ha : q + j ≤ p ∨ p + k ≤ q) : leAt (putAt M p k v) q j = leAt M q j := leAt_apart (by rw [leBytes_len]; exact h) (by rw [leBytes_len]; exact ha)
theorem leVal_lt (l : List UInt8) : leVal l < 256 ^ l.length := by
  have := beVal_lt l.reverse
  rwa [List.length_reverse] at this
theorem leAt_lt (M : List UInt8) (p k : Nat) : leAt M p k < 256 ^ k := by
  unfold leAt
  refine Nat.lt_of_lt_of_le (leVal_lt _) (Nat.pow_le_pow_right (by decide) ?_)
  rw [List.length_take]
  omega
theorem leAt2 (M : List UInt8) (p : Nat) : leAt M p 2 < 65536 := leAt_lt M p 2
theorem leAt4 (M : List UInt8) (p : Nat) : leAt M p 4 < 4294967296 := leAt_lt M p 4
theorem leAt8 (M : List UInt8) (p : Nat) : leAt M p 8 < 18446744073709551616 := leAt_lt M p 8
/-- a number that was put is read -/
theorem leVal_leBytes (k v : Nat) (h : v < 256 ^ k) : leVal (leBytes k v) = v := by
  induction k generalizing v with
  | zero => simp at h; subst h; rfl
  | succ k ih =>
    have e : leBytes (k + 1) v = UInt8.ofNat v :: leBytes k (v / 256) := by
      unfold leBytes
      rw [List.range_succ_eq_map, List.map_cons, List.map_map]
      simp only [Nat.pow_zero, Nat.div_one]
      congr 1
      apply List.map_congr_left
      intro i _
      simp only [Function.comp]
      rw [Nat.pow_succ', Nat.div_div_eq_div_mul]
    rw [e, leVal_cons, ih (v / 256) (by rw [Nat.pow_succ'] at h; exact Nat.div_lt_of_lt_mul h)]
    simp
    omega
theorem leAt_same {M : List UInt8} {p k v : Nat} (h : p + k ≤ M.length) (hv : v < 256 ^ k) : leAt (putAt M p k v) p k = v := by
  unfold leAt putAt
  have := patch_same (M := M) (p := p) (b := leBytes k v) (by rw [leBytes_len]; exact h)
  rw [leBytes_len] at this
  rw [this, leVal_leBytes k v hv]

/-- how far a driver has come: what it offered, what it used, which descriptors are taken -/
structure VQ where
  put : Nat
  got : Nat
  busy : List Bool
/-- how far a device has come -/
structure VD where
  got : Nat
  put : Nat
/-- a piece that a chain leads to -/
structure VBuf where
  addr : Nat
  len : Nat
  write : Bool
/-- the first that is free -/
def vFirst (busy : List Bool) : Nat := busy.findIdx (fun x => !x)
/-- one piece is offered, at descriptor i -/
def vAddM (M : List UInt8) (b n put i addr len fl : Nat) : List UInt8 :=
  putAt (putAt (putAt (putAt (putAt (putAt M (b + 16 * i) 8 addr) (b + (16 * i + 8)) 4 len) (b + (16 * i + 12)) 2 fl) (b + (16 * i + 14)) 2 0) (b + (16 * n + 4 + 2 * (put % n))) 2 i) (b + (16 * n + 2)) 2 ((put + 1) % 65536)
def VQ.add (q : VQ) (i : Nat) : VQ := { q with put := (q.put + 1) % 65536, busy := q.busy.set i true }
/-- what was used next: none; or a head, if it is one that flies, and how many bytes -/
def vUsed (M : List UInt8) (b n : Nat) (q : VQ) : Option (Option (Nat × Nat) × VQ) :=
  if leAt M (b + (18 * n + 4 + 2)) 2 = q.got then none
  else
    let h := leAt M (b + (18 * n + 4 + 4 + 8 * (q.got % n))) 4
    let l := leAt M (b + (18 * n + 4 + 4 + 8 * (q.got % n) + 4)) 4
    if q.busy[h]? = some true then some (some (h, l), { q with got := (q.got + 1) % 65536, busy := q.busy.set h false })
    else some (none, { q with got := (q.got + 1) % 65536 })
/-- how far the device is ahead -/
def vLag (M : List UInt8) (b n : Nat) (q : VQ) : Nat := (leAt M (b + (18 * n + 4 + 2)) 2 + 65536 - q.got) % 65536
/-- the next that was used and flies -/
def vBack (M : List UInt8) (b n : Nat) : Nat → VQ → Option (Nat × Nat) × VQ
  | 0, q => (none, q)
  | k + 1, q => match vUsed M b n q with
    | none => (none, q)
    | some (some x, q') => (some x, q')
    | some (none, q') => vBack M b n k q'
/-- all that were used are taken back -/
def vDrain (M : List UInt8) (b n : Nat) : Nat → VQ → VQ
  | 0, q => q
  | k + 1, q => match vUsed M b n q with
    | none => q
    | some (_, q') => vDrain M b n k q'
/-- a chain, from a descriptor on -/
def vChain (M : List UInt8) (b n : Nat) : Nat → Nat → List VBuf → Option (List VBuf)
  | 0, _, _ => none
  | k + 1, i, acc =>
    if n ≤ i ∨ acc.length = n then none
    else if leAt M (b + 16 * i) 8 > 4611686018427387904 then none
    else
      let fl := leAt M (b + (16 * i + 12)) 2
      let acc' := acc ++ [⟨leAt M (b + 16 * i) 8, leAt M (b + (16 * i + 8)) 4, fl / 2 % 2 == 1⟩]
      if fl % 2 = 0 then some acc' else vChain M b n k (leAt M (b + (16 * i + 14)) 2) acc'
/-- the next chain that is offered: none; or its head and pieces, if it is one -/
def vTake (M : List UInt8) (b n : Nat) (d : VD) : Option (Option (Nat × List VBuf) × VD) :=
  if leAt M (b + (16 * n + 2)) 2 = d.got then none
  else
    let h := leAt M (b + (16 * n + 4 + 2 * (d.got % n))) 2
    some ((vChain M b n (n + 1) h []).map fun l => (h, l), { d with got := (d.got + 1) % 65536 })
def vTakeLag (M : List UInt8) (b n : Nat) (d : VD) : Nat := (leAt M (b + (16 * n + 2)) 2 + 65536 - d.got) % 65536
/-- one is given back -/
def vGiveM (M : List UInt8) (b n put head len : Nat) : List UInt8 :=
  putAt (putAt (putAt M (b + (18 * n + 4 + 4 + 8 * (put % n))) 4 head) (b + (18 * n + 4 + 4 + 8 * (put % n) + 4)) 4 len) (b + (18 * n + 4 + 2)) 2 ((put + 1) % 65536)
def VD.give (d : VD) : VD := { d with put := (d.put + 1) % 65536 }

/-! ### the card and the port -/

def vSize (n : Nat) : Nat := 8 + 26 * n
/-- where a place lies: of what comes in; from n on: of what goes out -/
def vPlace (b n p : Nat) : Nat := b + 2 * vSize n + p * 1528
def vArea (n : Nat) : Nat := 2 * vSize n + 2 * n * 1528
/-- all of it: the memory, the card's two queues, the port's -/
structure VnSt where
  M : List UInt8
  ci : VQ
  co : VQ
  pi : VD
  po : VD
def vFrame (f : List UInt8) : List UInt8 := List.replicate 12 0 ++ f
/-- Send -/
def vSend (b n : Nat) (s : VnSt) (f : List UInt8) : Int × VnSt :=
  if f.length < 14 ∨ f.length > 1514 then (14, s)
  else
    let q := vDrain s.M (b + vSize n) n 65536 s.co
    let i := vFirst q.busy
    if i < n then
      (0, { s with M := vAddM (patch s.M (vPlace b n (n + i)) (vFrame f)) (b + vSize n) n q.put i (vPlace b n (n + i)) (12 + f.length) 0, co := q.add i })
    else (7, { s with co := q })
/-- Receive: one round, then the others -/
def vReceive (b n : Nat) : Nat → List UInt8 → VQ → List (List UInt8) → List (List UInt8) × List UInt8 × VQ
  | 0, M, q, out => (out, M, q)
  | k + 1, M, q, out => match vBack M b n 65536 q with
    | (none, q') => (out, M, q')
    | (some (p, l), q') =>
      vReceive b n k (vAddM M b n q'.put p (vPlace b n p) 1526 2) (q'.add p)
        (if 26 ≤ l ∧ l ≤ 1526 then out ++ [(M.drop (vPlace b n p + 12)).take (l - 12)] else out)
/-- may a chain be written, or read, as one piece? -/
def vPiece (M : List UInt8) (l : List VBuf) (k : Nat) (write : Bool) : Bool := match l with
  | [x] => decide (k ≤ x.len) && (x.write == write) && decide (x.addr + x.len ≤ M.length)
  | _ => false
/-- Deliver -/
def vDeliver (b n : Nat) (f : List UInt8) : Nat → List UInt8 → VD → Int × List UInt8 × VD
  | 0, M, d => (7, M, d)
  | k + 1, M, d => match vTake M b n d with
    | none => (7, M, d)
    | some (none, d') => vDeliver b n f k M d'
    | some (some (h, l), d') =>
      if vPiece M l (12 + f.length) true then
        (0, vGiveM (patch M ((l.headD ⟨0, 0, false⟩).addr) (vFrame f)) b n d'.put h (12 + f.length), d'.give)
      else vDeliver b n f k (vGiveM M b n d'.put h 0) d'.give
/-- Sent -/
def vSent (b n : Nat) : Nat → List UInt8 → VD → List (List UInt8) → List (List UInt8) × List UInt8 × VD
  | 0, M, d, out => (out, M, d)
  | k + 1, M, d, out => match vTake M b n d with
    | none => (out, M, d)
    | some (none, d') => vSent b n k M d' out
    | some (some (h, l), d') =>
      vSent b n k (vGiveM M b n d'.put h 0) d'.give
        (if vPiece M l 26 false && decide ((l.headD ⟨0, 0, false⟩).len ≤ 1526) then out ++ [(M.drop ((l.headD ⟨0, 0, false⟩).addr + 12)).take ((l.headD ⟨0, 0, false⟩).len - 12)] else out)
/-! ### lengths, lags -/
theorem vLag_lt (M : List UInt8) (b n : Nat) (q : VQ) : vLag M b n q < 65536 := Nat.mod_lt _ (by decide)
theorem vTakeLag_lt (M : List UInt8) (b n : Nat) (d : VD) : vTakeLag M b n d < 65536 := Nat.mod_lt _ (by decide)
theorem vLag_zero {M : List UInt8} {b n : Nat} {q : VQ} (hq : q.got < 65536) : vLag M b n q = 0 ↔ leAt M (b + (18 * n + 4 + 2)) 2 = q.got := by
  have := leAt2 M (b + (18 * n + 4 + 2))
  unfold vLag
  omega
theorem vLag_step {M : List UInt8} {b n : Nat} {q q' : VQ} (hq : q.got < 65536) (hne : leAt M (b + (18 * n + 4 + 2)) 2 ≠ q.got) (hq' : q'.got = (q.got + 1) % 65536) : vLag M b n q' + 1 = vLag M b n q := by
  have := leAt2 M (b + (18 * n + 4 + 2))
  unfold vLag
  rw [hq']
  omega
theorem vTakeLag_step {M : List UInt8} {b n : Nat} {d d' : VD} (hq : d.got < 65536) (hne : leAt M (b + (16 * n + 2)) 2 ≠ d.got) (hq' : d'.got = (d.got + 1) % 65536) : vTakeLag M b n d' + 1 = vTakeLag M b n d := by
  have := leAt2 M (b + (16 * n + 2))
  unfold vTakeLag
  rw [hq']
  omega
end Go.Proofs.Ytgiegiobigdplaa
