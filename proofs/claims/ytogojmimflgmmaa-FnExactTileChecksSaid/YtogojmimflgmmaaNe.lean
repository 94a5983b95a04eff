/- The checks of tiles: where there are none; the program. -/
import Derived.Test.YtogojmimflgmmaaNd
import Derived.Test.YtogojmimflgmmaaTz
namespace Go.Proofs.Ytogojmimflgmmaa
open Go.RowKit
set_option maxRecDepth 100000
set_option linter.unusedVariables false
set_option linter.unusedSimpArgs false

theorem sTileChecks_no (w : World) (a b wk : Int) (sa : Option Addr) (n c : Nat) (hn : n ≤ 9223372036854775807) (hno : (vPic a b n && (decide (1 ≤ wk) && decide (wk ≤ 8))) = false) :
    Calls Try.prog 5 #[.agg #[.int .i64 a, .int .i64 b, .slice sa n c], .int .i64 wk] w fun e w' => e = .returned (.tuple #[.slice none 0 0, .bool false]) ∧ Below w.heap.size w w' := by
  obtain ⟨W0, hW0⟩ : ∃ W, W = w.alloc (.cells #[.int .i64 a, .int .i64 b, .slice sa n c] 29) := ⟨_, rfl⟩
  have hb0 : Below w.heap.size w W0 := by rw [hW0]; exact (Below.refl _ _).alloc (Nat.le_refl _) _
  have hx : BoxN W0 w.heap.size #[.int .i64 a, .int .i64 b, .slice sa n c] 29 := by rw [hW0]; exact BoxN.last w _ _
  have KM := Lib.hid (l03IsMap_gen W0 w.heap.size 0 a b sa n c hn (hx.cell 0) (hx.cell 1) (hx.cell 2))
  have KW := Lib.hid (fun W => sWorkers_any W wk)
  have HX := Lib.hid hb0
  have HW0 := Lib.hid hW0
  clear hb0 hx hW0
  cases hv : vPic a b n
  · rw [hv] at KM
    clear hno hv hn
    go_enter Try.func5, Try.ntmps5
    go_wp2_with fail
    rw [← HW0.out]
    refine KM.out.mono ?_
    rintro e w1 ⟨rfl, m, rfl⟩
    have HF := Lib.hid (below_drewN HX.out m)
    go_wp2_with fail
    go_ret2
    exact ⟨rfl, HF.out⟩
  · rw [hv] at KM hno
    rw [Bool.true_and] at hno
    rw [hno] at KW
    clear hno hv hn
    go_enter Try.func5, Try.ntmps5
    go_wp2_with fail
    rw [← HW0.out]
    refine KM.out.mono ?_
    rintro e w1 ⟨rfl, m, rfl⟩
    have HF := Lib.hid (below_drewN HX.out m)
    go_wp2_with fail
    refine (KW.out _).mono ?_
    rintro e w2 ⟨rfl, rfl⟩
    go_wp2_with fail
    go_ret2
    exact ⟨rfl, HF.out⟩

theorem iTileChecks_no (w : World) (a b wk : Int) (sa : Option Addr) (n c : Nat) (hn : n ≤ 9223372036854775807) (hno : (vPic a b n && (decide (1 ≤ wk) && decide (wk ≤ 8))) = false) :
    Calls Try.prog 7 #[.agg #[.int .i64 a, .int .i64 b, .slice sa n c], .int .i64 wk] w fun e w' => e = .returned (.tuple #[.slice none 0 0, .bool false]) ∧ Below w.heap.size w w' := by
  obtain ⟨W0, hW0⟩ : ∃ W, W = w.alloc (.cells #[.int .i64 a, .int .i64 b, .slice sa n c] 29) := ⟨_, rfl⟩
  have hb0 : Below w.heap.size w W0 := by rw [hW0]; exact (Below.refl _ _).alloc (Nat.le_refl _) _
  have hx : BoxN W0 w.heap.size #[.int .i64 a, .int .i64 b, .slice sa n c] 29 := by rw [hW0]; exact BoxN.last w _ _
  have hbl := hx.lt
  have KM := Lib.hid (fun W => validMap_any a b sa n c hn W)
  have c1 : W0.cell? ⟨w.heap.size, 1, none⟩ = some (.int .i64 b) := hx.cell 1
  rw [hW0] at c1
  have HX := Lib.hid (And.intro hb0 hx)
  have HW0 := Lib.hid hW0
  by_cases hok : 1 ≤ b ∧ b ≤ 24 ∧ 1 ≤ wk ∧ wk ≤ 8
  · obtain ⟨h1, h2, h3, h4⟩ := hok
    have hv : vPic a b n = false := by rw [decide_eq_true h3, decide_eq_true h4] at hno; simpa using hno
    obtain ⟨hi, rfl⟩ := Int.eq_ofNat_of_zero_le (show 0 ≤ b by omega)
    obtain ⟨k, rfl⟩ := Int.eq_ofNat_of_zero_le (show 0 ≤ wk by omega)
    have KT := Lib.hid (fun W => iTiles_yes W hi k (by omega) (by omega) (by omega) (by omega))
    rw [hv] at KM
    clear hno hv hn hb0 hx hW0 h1 h2 h3 h4
    go_enter Try.func7, Try.ntmps7
    go_wp2_with fail
    rw [← HW0.out]
    clear c1
    refine (KT.out _).mono ?_
    rintro e w1 ⟨v, rfl, -, hb1⟩
    have hbb := HX.out.1.trans (hb1.mono HX.out.1.size)
    have hx1 := HX.out.2.below hb1
    obtain ⟨c0, c1, c2⟩ : w1.cell? ⟨w.heap.size, 0, none⟩ = some (.int .i64 a) ∧ w1.cell? ⟨w.heap.size, 1, none⟩ = some (.int .i64 hi) ∧ w1.cell? ⟨w.heap.size, 2, none⟩ = some (.slice sa n c) := ⟨hx1.cell 0, hx1.cell 1, hx1.cell 2⟩
    have hz1 := hx1.lt
    have HBB := Lib.hid hbb
    clear hbb hb1 hx1
    go_wp2_with fail
    refine (KM.out _).mono ?_
    rintro e w2 ⟨rfl, hb2⟩
    have HF := Lib.hid (HBB.out.trans (hb2.mono HBB.out.size))
    clear hb2
    go_wp2_with fail
    go_ret2
    exact ⟨rfl, HF.out⟩
  · have KT := Lib.hid (fun W => iTiles_no W b wk hok)
    clear hno hn hb0 hx hW0 hok
    go_enter Try.func7, Try.ntmps7
    go_wp2_with fail
    rw [← HW0.out]
    refine (KT.out _).mono ?_
    rintro e w1 ⟨rfl, rfl⟩
    go_wp2_with fail
    go_ret2
    exact ⟨rfl, HX.out.1⟩

end Go.Proofs.Ytogojmimflgmmaa
