/- Contracts of the document's chapter 1 (undercroftref1): size, Be, Le, put, PutLe, PutBe, Crc, Inet. -/
import Derived.Test.YtgiegiobigdplaaNumC
namespace Go.Proofs.Ytgiegiobigdplaa
open Go Go.RowKit
set_option maxRecDepth 100000

theorem rsize_any (n : Int) (w : World) : Calls Try.prog 70 #[.int .i64 n] w fun e w' => e = .returned (.bool (okSize n)) ∧ w = w' := by
  unfold okSize
  cases e1 : (n == 1)
  · cases e2 : (n == 2)
    · cases e4 : (n == 4)
      · cases e8 : (n == 8)
        all_goals
          go_enter Try.func70, Try.ntmps70
          go_wp2
          go_ret
          exact ⟨rfl, rfl⟩
      · go_enter Try.func70, Try.ntmps70
        go_wp2
        go_ret
        exact ⟨rfl, rfl⟩
    · go_enter Try.func70, Try.ntmps70
      go_wp2
      go_ret
      exact ⟨rfl, rfl⟩
  · go_enter Try.func70, Try.ntmps70
    go_wp2
    go_ret
    exact ⟨rfl, rfl⟩
end Go.Proofs.Ytgiegiobigdplaa
