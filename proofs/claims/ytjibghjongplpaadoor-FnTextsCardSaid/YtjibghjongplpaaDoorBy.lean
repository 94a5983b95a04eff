/- The table of the powers of ten, as the row lists it. -/
import Derived.Test.YtjibghjongplpaaDoorBe
import Derived.Test.YtjibghjongplpaaDoorRows
import Derived.LaidSub
import Derived.MakeChecks
import Derived.Lib.LaidTab
namespace Go.Proofs.YtjibghjongplpaaDoor
open Go.RowKit

theorem tab_of {l : List (String × DataW Unit)} {W : World} (he : l.filter (fun x => x.1 == "internal/strconv.uint64pow10") = [("internal/strconv.uint64pow10", Lib.tabData .u64 Lib.pow10Tab)]) (h : laidMetH Tryd.prog l W) : TabT W := by
  have h2 := laidMetH.filter (fun x => x.1 == "internal/strconv.uint64pow10") h
  rw [he, MakeChecks.laidMetH_plain _ _ _ (by kernel_rfl)] at h2
  exact Lib.tabIs_of_head (rest := []) (g := 2) (by kernel_rfl) (by kernel_rfl) Tryd.underlying129 Tryd.underlying71 (by kernel_rfl) (by kernel_rfl) h2

end Go.Proofs.YtjibghjongplpaaDoor
