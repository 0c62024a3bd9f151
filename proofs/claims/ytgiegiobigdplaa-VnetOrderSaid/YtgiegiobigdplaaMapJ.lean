/- An entry of a map is laid open first and filled behind that (m[k], b[i] = v, true). -/
import Derived.Test.YtgiegiobigdplaaMapI
import Derived.WideKeyEntry
namespace Go.Proofs.Ytgiegiobigdplaa
open Go Go.RowKit
open Go.Maps (Keyed)
open Go.ChangeMaps Go.MapKept Go.WideShapes

section
variable {P : Program} {k : TypeId} {w : World} {b n : Nat} {f : Nat → Option Value}
/-- the block of a map, whatever its entries -/
def setMap (w : World) (b : Nat) (es : Array MapEntry) (clock : Nat) : World := setBlock w b (.map es clock)
theorem grown_setMap {es es' : Array MapEntry} {clock clock' : Nat} (hb : w.heap[b]? = some (.map es clock)) : w.grownBy (setMap w b es' clock') (some b) :=
  ⟨rfl, rfl, rfl, by simp [setMap, setBlock], fun i _ hi => heap_setBlock_other hb _ (fun e => hi (by rw [e]))⟩
theorem MapI.entry {t e : TypeId} (h : MapI P k w b n f) (hk : P.underlying k = some (.int .i64)) (ht : P.underlying t = some (.map k e)) {z : Value} (hz : ∀ u : World, (zeroValue e).run P u = .ok z u) (hn : n < maxLen) (x : Nat) (hx : x < 4294967296) :
    ∃ w1 v0 st, (Instr.mapEntry t (.map (some b)) (.int .i64 (x : Int))).run P w = .ok (.tuple #[v0, st]) w1 ∧ w.grownBy w1 (some b) ∧
      ∀ w2 val, w2.heap[b]? = w1.heap[b]? → ∃ w3, (Instr.entryStore t (.map (some b)) st val).run P w2 = .ok () w3 ∧ MapI P k w3 b (n + 1) (updI f x (some val)) ∧ w2.grownBy w3 (some b) := by
  have hput := fun val => h.put hk ht hn x hx val
  obtain ⟨D, ⟨es, clock, hb, F, hs, rfl⟩, _⟩ := h
  have hkey := key_int hk x hx
  have K := Maps.int_keyed hk
  obtain ⟨s1, s2, _⟩ := F.stamped
  -- where both roads end: the same block
  have fin : ∀ (es1 : Array MapEntry) (c1 : Nat) (st : Int), (∀ (w2 : World) (val : Value), w2.heap[b]? = some (.map es1 c1) → ∃ es' c', (Instr.entryStore t (.map (some b)) (.int .i64 st) val).run P w2 = .ok () (setMap w2 b es' c') ∧ (Instr.mapUpdate t (.map (some b)) (.int .i64 (x : Int)) val).run P w = .ok () (setMap w b es' c')) →
      ∀ w2 val, w2.heap[b]? = (setMap w b es1 c1).heap[b]? → ∃ w3, (Instr.entryStore t (.map (some b)) (.int .i64 st) val).run P w2 = .ok () w3 ∧ MapI P k w3 b (n + 1) (updI f x (some val)) ∧ w2.grownBy w3 (some b) := by
    intro es1 c1 st hes w2 val hw2
    have hw3 : w2.heap[b]? = some (.map es1 c1) := hw2.trans (heap_setBlock_same hb _)
    obtain ⟨es', c', r1, r2⟩ := hes w2 val hw3
    obtain ⟨w', q1, q2, _⟩ := hput val
    rw [r2] at q1
    injection q1 with _ q1
    refine ⟨_, r1, q2.block ?_, grown_setMap hw3⟩
    rw [← q1]
    exact (heap_setBlock_same hw3 _).trans (heap_setBlock_same hb _).symm
  rcases K.find w hkey es.toList F.keys with ⟨h1, _⟩ | ⟨j, e0, h1, h2, h3⟩
  · refine ⟨setMap w b (es.push ⟨.int .i64 (x : Int), z, clock⟩) (clock + 1), z, .int .i64 (clock : Int), ?_, grown_setMap hb, fin _ _ _ fun w2 val hw2 => ⟨es.push ⟨.int .i64 (x : Int), val, clock⟩, clock + 1, ?_, ?_⟩⟩
    · simp [Instr.mapEntry, run_underlying ht, MapKept.run_getObj_map hb, K.check w false hkey, h1, hz, MapKept.run_setObj_map _ hb, Result.andThen, setMap, setBlock, goInt]
    · have hidx : (es.push ⟨.int .i64 (x : Int), z, clock⟩).findIdx? (fun e => ((e.born : Nat) : Int) == ((clock : Nat) : Int)) = some es.size := by
        rw [WideElems.findIdx_arr]
        refine WideElems.findIdx_born (l := (es.push ⟨.int .i64 (x : Int), z, clock⟩).toList) (j := es.size) (e0 := ⟨.int .i64 (x : Int), z, clock⟩) ?_ (by simp)
        rw [Array.toList_push, List.map_append]
        refine List.nodup_append.2 ⟨s2, by simp, fun a ha c hc e1 => ?_⟩
        obtain ⟨y, hy, rfl⟩ := List.mem_map.1 ha
        have hlt := s1 y hy
        simp at hc
        omega
      have hmod : (es.push ⟨.int .i64 (x : Int), z, clock⟩).modify es.size (fun e => { e with val := val }) = es.push ⟨.int .i64 (x : Int), val, clock⟩ := by
        apply Array.ext'
        rw [Array.toList_modify, Array.toList_push, Array.toList_push, ← Array.length_toList, WideElems.modify_last]
      simp [Instr.entryStore, MapKept.run_getObj_map hw2, asInt, asIntOf, hidx, hmod, MapKept.run_setObj_map _ hw2, Result.andThen, setMap, setBlock]
    · simp [Instr.mapUpdate, run_underlying ht, MapKept.run_getObj_map hb, K.check w false hkey, h1, MapKept.run_setObj_map _ hb, Result.andThen, setMap, setBlock]
  · have hj : es[j]? = some e0 := by simpa using h2
    have hsame : es.modify j (fun e => { e with key := .int .i64 (x : Int) }) = es := by
      apply Array.ext'
      rw [Array.toList_modify, modify_eq_set _ _ _ _ h2]
      have : ({ e0 with key := .int .i64 (x : Int) } : MapEntry) = e0 := by rw [← h3]
      rw [this]
      exact WideElems.set_self _ _ _ h2
    refine ⟨setMap w b es clock, e0.val, .int .i64 (e0.born : Int), ?_, grown_setMap hb, fin _ _ _ fun w2 val hw2 => ⟨es.modify j (fun e' => { e' with key := .int .i64 (x : Int), val := val }), clock, ?_, ?_⟩⟩
    · simp [Instr.mapEntry, run_underlying ht, MapKept.run_getObj_map hb, K.check w false hkey, h1, hj, h3, K.stays w hkey, hsame, MapKept.run_setObj_map _ hb, Result.andThen, setMap, setBlock, goInt]
    · have hidx : es.findIdx? (fun e => ((e.born : Nat) : Int) == ((e0.born : Nat) : Int)) = some j := by
        rw [WideElems.findIdx_arr]
        exact WideElems.findIdx_born s2 h2
      have hmod : es.modify j (fun e => { e with val := val }) = es.modify j (fun e' => { e' with key := .int .i64 (x : Int), val := val }) := by
        apply Array.ext'
        rw [Array.toList_modify, Array.toList_modify, modify_eq_set _ _ _ _ h2, modify_eq_set _ _ _ _ h2, ← h3]
      simp [Instr.entryStore, MapKept.run_getObj_map hw2, asInt, asIntOf, hidx, hmod, MapKept.run_setObj_map _ hw2, Result.andThen, setMap, setBlock]
    · simp [Instr.mapUpdate, run_underlying ht, MapKept.run_getObj_map hb, K.check w false hkey, h1, hj, h3, K.stays w hkey, MapKept.run_setObj_map _ hb, Result.andThen, setMap, setBlock]
end
end Go.Proofs.Ytgiegiobigdplaa
