/- The program's text of a small whole number. -/
import Derived.Test.YtmcmcppleikajaaDoorTz
import Derived.Test.YtmcmcppleikajaaDoorDc
namespace Go.Proofs.YtmcmcppleikajaaDoor
open Go.RowKit
set_option maxRecDepth 100000
set_option linter.unusedVariables false
set_option linter.unusedSimpArgs false

theorem dec_any (w : World) (n : Nat) (hn : n < 100) :
    Calls Tryd.prog 18 #[.int .i64 n] w fun e w' => e = .returned (.string ⟨(Lib.decDigits n).toArray⟩) ∧ w = w' := by
  have K := Lib.hid (fun W => Tryd.strconv_FormatInt_10_small n hn W)
  go_enter Tryd.func18, Tryd.ntmps18
  go_wp2_with fail
  refine (K.out _).mono ?_
  rintro e w' ⟨rfl, rfl⟩
  go_wp2_with fail
  go_ret
  exact ⟨rfl, rfl⟩

/-- The text of sizes. -/
def decs (ns : List Nat) : List (List UInt8) := ns.map Lib.decDigits
def lstT (ns : List Nat) : List UInt8 := commaL (decs ns)
theorem decDigits_len100 {n : Nat} (h : n < 100) : (Lib.decDigits n).length ≤ 2 := by
  by_cases h1 : n < 10
  · rw [Lib.decDigits_one h1]; simp
  · rw [Lib.decDigits_two h1 h]; simp

end Go.Proofs.YtmcmcppleikajaaDoor
