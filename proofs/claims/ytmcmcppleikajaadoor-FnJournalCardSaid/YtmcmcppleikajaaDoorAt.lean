/- b10At. -/
import Derived.Test.YtmcmcppleikajaaDoorGen
import Derived.IntWalk
namespace Go.Proofs.YtmcmcppleikajaaDoor
open Go.RowKit
set_option maxRecDepth 100000
set_option linter.unusedVariables false
set_option linter.unusedSimpArgs false

theorem b10At_a (w : World) (a : Option Addr) (len cap : Nat) (k : Nat) (n : Int) (hn : 1 ≤ n) (hn2 : n ≤ 1000000) (hk : k ≤ 1000) (h : BytesIn w a len) :
    Calls Tryd.prog 8 #[.slice a len cap, .int .i64 k, .int .i64 n] w (SomeBelow w 0 (n - 1)) := by
  have hl := h.1
  by_cases h1 : n = 1
  · subst h1
    go_enter Tryd.func8, Tryd.ntmps8
    go_wp2
    go_ret
    exact ⟨0, rfl, by omega, by omega, rfl⟩
  · have d1 : decide (n ≤ 1) = false := by simp; omega
    have d3 : ¬ n = 0 := by omega
    by_cases h2 : k < len
    · rcases h.2 with h0 | ⟨b, off, rfl, hb, hc⟩
      · omega
      · obtain ⟨z, hz, hz0, hz1⟩ := hc k h2
        have d2 : decide (len ≤ k) = false := by simp; omega
        clear hc h
        go_enter Tryd.func8, Tryd.ntmps8
        go_wp2
        go_ret
        exact ⟨_, rfl, Int.emod_nonneg _ (by omega), by have := Int.emod_lt_of_pos z (show 0 < n by omega); omega, rfl⟩
    · have d2 : decide (len ≤ k) = true := by simp; omega
      have d4 : (0 : Int) ≤ (k : Int) * 37 + 11 := by omega
      go_enter Tryd.func8, Tryd.ntmps8
      go_wp2
      go_ret
      exact ⟨_, rfl, Int.emod_nonneg _ (by omega), by have := Int.emod_lt_of_pos ((k : Int) * 37 + 11) (show 0 < n by omega); omega, rfl⟩

end Go.Proofs.YtmcmcppleikajaaDoor
