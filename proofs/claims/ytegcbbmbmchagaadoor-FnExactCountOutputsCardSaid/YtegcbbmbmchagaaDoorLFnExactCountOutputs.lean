/- The law FnExactCountOutputs: its walk. -/
import Derived.Test.YtegcbbmbmchagaaDoorBd
namespace Go.Proofs.YtegcbbmbmchagaaDoor
open Go.RowKit
set_option maxRecDepth 100000
set_option linter.unusedVariables false
set_option linter.unusedSimpArgs false

theorem fnExactCountOutputs_walk (w : World) (s : ByteArray) (m : Int) (hm : w.cell? ⟨0, 0, none⟩ = some (.int .i64 m)) :
    Calls Tryd.prog 3 #[.string s] w fun e w' => e = .returned (.bool true) ∧ Below w.heap.size w w' := by
  by_cases hs : s.size ≤ 1048576
  case neg =>
    have h1 : (1048576 : Int) < (s.size : Int) := by omega
    go_enter Tryd.func3, Tryd.ntmps3
    go_wp2_with fail
    go_ret
    exact ⟨rfl, Below.refl _ _⟩
  case pos =>
    have h1 : ¬ (1048576 : Int) < (s.size : Int) := by omega
    have KS := Lib.hid (sCount_any w s (by omega))
    have KI := Lib.hid (fun W (hb : Below w.heap.size w W) => iCount_any W s m (by omega) ((hb.cell (p := ⟨0, 0, none⟩) (World.block_lt_of_cell? _ _ hm)).trans hm))
    generalize cntB (lnsL s.data.toList) = k at *
    generalize (lnsL s.data.toList).length - k = j at *
    generalize restL s.data.toList = r at *
    clear hm
    go_enter Tryd.func3, Tryd.ntmps3
    go_wp2_with fail
    refine KS.out.mono ?_
    rintro e w1 ⟨hb, ⟨hr, rfl⟩ | ⟨hr, rfl⟩⟩
    · have HB := Lib.hid (And.intro hb hr)
      clear hb hr
      go_wp2_with fail
      refine (KI.out _ HB.out.1).mono ?_
      rintro e w2 ⟨hb2, ⟨hr2, rfl⟩ | ⟨hr2, rfl⟩⟩
      · have HF := Lib.hid (HB.out.1.trans (hb2.mono HB.out.1.size))
        clear hb2 hr2
        go_wp2_with fail
        go_ret
        exact ⟨rfl, HF.out⟩
      · exact absurd hr2 HB.out.2
    · have HB := Lib.hid (And.intro hb hr)
      clear hb hr
      have n1 : ((k : Int) != (k : Int)) = false := by simp
      have n2 : ((j : Int) != (j : Int)) = false := by simp
      go_wp2_with fail
      refine (KI.out _ HB.out.1).mono ?_
      rintro e w2 ⟨hb2, ⟨hr2, rfl⟩ | ⟨hr2, rfl⟩⟩
      · exact absurd HB.out.2 hr2
      · have HF := Lib.hid (HB.out.1.trans (hb2.mono HB.out.1.size))
        clear hb2 hr2
        go_wp2_with fail
        go_ret
        exact ⟨rfl, HF.out⟩

end Go.Proofs.YtegcbbmbmchagaaDoor
