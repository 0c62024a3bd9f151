/- A connection in memory; New. -/
import Derived.Test.YtahlcjkcdgahkaaTcpA
import Derived.Test.YtahlcjkcdgahkaaMapV
namespace Go.Proofs.Ytahlcjkcdgahkaa
open Go Go.RowKit
attribute [local go_sem ↓] Go.wp_at_zero Go.wp_at_succ
set_option maxRecDepth 100000

def earlyV (e : Nat → Option UInt8) (k : Nat) : Option Value := (e k).map fun b => .int .u8 (b.toNat : Int)
structure ConnAt (w : World) (base g : Nat) (c : TConn) (m : Nat) (vr : Value) (gM : Nat) (vb : Value) (f : Nat → Option Value) (F : Nat → Prop) : Prop where
  tab : Blk w g 84 (c.cells vr (.map (some gM)) vb)
  ready : OwnBs w base 5 vr c.inn.ready
  bytes : RowAtS w base 5 1 vb c.out.bytes.length (c.out.bytes.map u8v)
  map : MapU Try.prog 22 w gM m f
  early : ∀ k, k < 4294967296 → f k = earlyV c.inn.early k
  fg : F g
  fM : F gM
  fr : ∀ k, vr.ownBlock = some k → F k
  fb : ∀ k, vb.ownBlock = some k → F k
  flt : ∀ k, F k → base ≤ k ∧ k < w.heap.size
  ap : ∀ k, vr.ownBlock = some k → vb.ownBlock ≠ some k
/-- a connection in block g; at most m stores into its map; F: its blocks -/
def ConnInv (w : World) (base g : Nat) (c : TConn) (m : Nat) (F : Nat → Prop) : Prop := ∃ vr gM vb f, ConnAt w base g c m vr gM vb f F
/-- what begins a connection -/
def tBegins (flags : Int) : Prop := bits .andNot .i64 flags 8 = 2
def tMss (ms : Int) : Int := max 64 (min 1460 (if ms = 0 then 536 else ms))
def tNew (s : TSeg) (first : Nat) : TConn :=
  { inn := ⟨(s.seq + 1) % 4294967296, [], fun _ => none, 0, false, false⟩
    out := ⟨first, (first + 1) % 4294967296, (first + 1) % 4294967296, [], s.window, tMss s.mss, 0, 0, false, false⟩
    src := s.dst, dst := s.src, state := 1, begin_ := true, acks := false, again := false, gave := false, off := false }
theorem conninfo : (Try.prog.info? 84).map (·.size) = some 24 := by kernel_rfl
theorem new_done (w : World) (s : TSeg) (v : Value) (first : Nat) (mm : Int) (hmm : tMss s.mss = mm) :
    ConnInv (((w.alloc (.cells (s.cells v).toArray 30)).alloc (.cells #[.int .u32 (((s.seq : Int) + 1) % 4294967296), .slice none 0 0, .map (some (w.heap.size + 1 + 1)), .int .u32 0, .bool false, .bool false, .int .u32 (first : Int), .int .u32 (((first : Int) + 1) % 4294967296), .int .u32 (((first : Int) + 1) % 4294967296), .slice none 0 0, .int .i64 s.window, .int .i64 mm, .int .i64 0, .int .i64 0, .bool false, .bool false, .int .i64 s.dst, .int .i64 s.src, .int .i64 1, .bool true, .bool false, .bool false, .bool false, .bool false] 84)).alloc (.map #[] 0)) w.heap.size (w.heap.size + 1) (tNew s first) 0 (fun k => k = w.heap.size + 1 ∨ k = w.heap.size + 1 + 1) := by
  subst hmm
  have e1 : (((s.seq : Int) + 1) % 4294967296) = (((s.seq + 1) % 4294967296 : Nat) : Int) := by omega
  have e2 : (((first : Int) + 1) % 4294967296) = (((first + 1) % 4294967296 : Nat) : Int) := by omega
  rw [e1, e2]
  have hb := (Blk.new (w.alloc (.cells (s.cells v).toArray 30)) 84 #[.int .u32 (((s.seq + 1) % 4294967296 : Nat) : Int), .slice none 0 0, .map (some (w.heap.size + 1 + 1)), .int .u32 0, .bool false, .bool false, .int .u32 (first : Int), .int .u32 (((first + 1) % 4294967296 : Nat) : Int), .int .u32 (((first + 1) % 4294967296 : Nat) : Int), .slice none 0 0, .int .i64 s.window, .int .i64 (tMss s.mss), .int .i64 0, .int .i64 0, .bool false, .bool false, .int .i64 s.dst, .int .i64 s.src, .int .i64 1, .bool true, .bool false, .bool false, .bool false, .bool false]).alloc (.map #[] 0)
  rw [World.size_alloc] at hb
  have hm := MapU.made Try.prog 22 ((w.alloc (.cells (s.cells v).toArray 30)).alloc (.cells #[.int .u32 (((s.seq + 1) % 4294967296 : Nat) : Int), .slice none 0 0, .map (some (w.heap.size + 1 + 1)), .int .u32 0, .bool false, .bool false, .int .u32 (first : Int), .int .u32 (((first + 1) % 4294967296 : Nat) : Int), .int .u32 (((first + 1) % 4294967296 : Nat) : Int), .slice none 0 0, .int .i64 s.window, .int .i64 (tMss s.mss), .int .i64 0, .int .i64 0, .bool false, .bool false, .int .i64 s.dst, .int .i64 s.src, .int .i64 1, .bool true, .bool false, .bool false, .bool false, .bool false] 84))
  simp only [World.size_alloc] at hm
  exact ⟨.slice none 0 0, w.heap.size + 1 + 1, .slice none 0 0, fun _ => none, hb, OwnBs.nil _ _ _, RowAtS.nil _ _ _ _, hm, fun _ _ => rfl, .inl rfl, .inr rfl, fun k hk => by simp [Value.ownBlock] at hk, fun k hk => by simp [Value.ownBlock] at hk, fun k hk => by simp only [World.size_alloc]; omega, fun k hk => by simp [Value.ownBlock] at hk⟩
def TNewPost (s : TSeg) (first : Nat) (w : World) (e : Ending) (w' : World) : Prop := ∃ g F, e = .returned (.tuple #[.pointer (some ⟨g, 0, none⟩), .int .i64 0]) ∧ ConnInv w' w.heap.size g (tNew s first) 0 F ∧ Below w.heap.size w w'
theorem new_any (s : TSeg) (A : Option Addr) (n cap : Nat) (first : Nat) (w : World) (hb : tBegins s.flags) (hsq : s.seq < 4294967296) :
    Calls Try.prog 22 #[s.val (.slice A n cap), .int .u32 (first : Int)] w (TNewPost s first w) := by
  obtain ⟨s0, d0, sq, ak, fl, wi, ms, body⟩ := s
  have hmm := @run_makeMap Try.prog
  have hfl : bits .andNot .i64 fl 8 = 2 := hb
  have hflb : (bits .andNot .i64 fl 8 != 2) = false := by rw [hfl]; rfl
  dsimp only [TSeg.val, TSeg.cells]
  by_cases h0 : ms = 0
  · subst h0
    go_enter Try.func22, Try.ntmps22
    go_wp2_with fail
    go_ret2
    exact ⟨w.heap.size + 1, _, rfl, new_done w ⟨s0, d0, sq, ak, fl, wi, 0, body⟩ (.slice A n cap) first _ rfl, below_alloc' (below_alloc' (below_alloc w _) _) _⟩
  have h0b : (ms == 0) = false := by simpa using h0
  have H0 := hid h0
  go_enter Try.func22, Try.ntmps22
  go_wp2_with fail
  all_goals
    go_ret2
    refine ⟨w.heap.size + 1, _, rfl, new_done w ⟨s0, d0, sq, ak, fl, wi, ms, body⟩ (.slice A n cap) first _ ?_, below_alloc' (below_alloc' (below_alloc w _) _) _⟩
    show tMss ms = _
    unfold tMss
    rw [if_neg H0.out]
    omega
end Go.Proofs.Ytahlcjkcdgahkaa
