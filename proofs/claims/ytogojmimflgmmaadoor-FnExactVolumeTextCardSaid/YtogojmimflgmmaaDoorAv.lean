/- Volumes of the exact laws: szVolume, eqVolume. -/
import Derived.Test.YtogojmimflgmmaaDoorAh
import Derived.Test.YtogojmimflgmmaaDoorDe
namespace Go.Proofs.YtogojmimflgmmaaDoor
open Go.RowKit
set_option maxRecDepth 100000
set_option linter.unusedVariables false
set_option linter.unusedSimpArgs false

theorem szV_any (w : World) (a b d : Int) (sa : Option Addr) (n c left : Nat) (hl : left ≤ 1048576) (hn : n ≤ 9223372036854775807) :
    Calls Tryd.prog 16 #[.agg #[.int .i64 a, .int .i64 b, .int .i64 d, .slice sa n c], .int .i64 left] w fun e w' => e = .returned (.int .i64 (szL left n)) ∧ Below w.heap.size w w' := by
  have hb : Below w.heap.size w (w.alloc (.cells #[.int .i64 a, .int .i64 b, .int .i64 d, .slice sa n c] 41)) := (Below.refl _ _).alloc (Nat.le_refl _) _
  have K := Lib.hid (fun W => szF_any W sa n c left hl hn)
  have hz : -1 ≤ szL left n := by unfold szL; split <;> omega
  by_cases h : szL left n < 0
  · have e : szL left n = -1 := by omega
    rw [e] at K ⊢
    clear e h hz hl
    go_enter Tryd.func16, Tryd.ntmps16
    go_wp2_with fail
    refine (K.out _).mono ?_
    rintro e w' ⟨rfl, rfl⟩
    go_wp2
    go_ret
    exact ⟨rfl, hb⟩
  · obtain ⟨z, hz2⟩ := Int.eq_ofNat_of_zero_le (show 0 ≤ szL left n by omega)
    rw [hz2] at K ⊢
    have h1 : decide ((z : Int) < 0) = false := decide_eq_false (by omega)
    clear h hz hz2 hl
    go_enter Tryd.func16, Tryd.ntmps16
    go_wp2_with fail
    refine (K.out _).mono ?_
    rintro e w' ⟨rfl, rfl⟩
    go_wp2
    go_ret
    exact ⟨rfl, hb⟩

theorem eqV_yes (w : World) (a b d : Int) (s1 s2 : Option Addr) (n1 n2 c1 c2 : Nat) (xs ys : List Nat) (h1 : SlF w (.slice s1 n1 c1) xs) (h2 : SlF w (.slice s2 n2 c2) ys) (he : xs.map fl = ys.map fl) :
    Calls Tryd.prog 20 #[.agg #[.int .i64 a, .int .i64 b, .int .i64 d, .slice s1 n1 c1], .agg #[.int .i64 a, .int .i64 b, .int .i64 d, .slice s2 n2 c2]] w fun e w' => e = .returned (.bool true) ∧ Below w.heap.size w w' := by
  have hb := below_two2 w (.cells #[.int .i64 a, .int .i64 b, .int .i64 d, .slice s1 n1 c1] 44) (.cells #[.int .i64 a, .int .i64 b, .int .i64 d, .slice s2 n2 c2] 44)
  have K := Lib.hid (eqF_yes _ _ _ xs ys (h1.below hb) (h2.below hb) he)
  go_enter Tryd.func20, Tryd.ntmps20
  go_wp2_with fail
  refine K.out.mono ?_
  rintro e w' ⟨rfl, q, rfl⟩
  go_wp2
  go_ret
  exact ⟨rfl, below_drewN hb _⟩

/-- A volume is made of an argument's. -/
def MakesV2 (w : World) (a b d : Int) (bs : List Nat) (e : Ending) (w' : World) : Prop :=
  ∃ g, e = .returned (.agg #[.int .i64 a, .int .i64 b, .int .i64 d, .slice (some ⟨g, 0, none⟩) bs.length bs.length]) ∧ OwnF w' w.heap.size (.slice (some ⟨g, 0, none⟩) bs.length bs.length) bs ∧ Below w.heap.size w w'

theorem toV_any (w : World) (a b d : Int) (sa : Option Addr) (n c : Nat) (bs : List Nat) (h : SlF w (.slice sa n c) bs) (hn : bs.length = n) (hl : n ≤ 1048576) :
    Calls Tryd.prog 18 #[.agg #[.int .i64 a, .int .i64 b, .int .i64 d, .slice sa n c]] w (MakesV2 w a b d bs) := by
  subst hn
  obtain ⟨W0, hW0⟩ : ∃ W, W = (((w.alloc (.cells #[.int .i64 a, .int .i64 b, .int .i64 d, .slice sa bs.length c] 41)).alloc (.cells #[.int .i64 0, .int .i64 0, .int .i64 0, .slice none 0 0] 44)).alloc (.cells #[.int .i64 a, .int .i64 b, .int .i64 d, .slice none 0 0] 44)) := ⟨_, rfl⟩
  obtain ⟨hb0, x0, x1, x2⟩ := three_boxes hW0
  have hs0 : W0.heap.size = w.heap.size + 1 + 1 + 1 := by rw [hW0]; simp
  have K := Lib.hid (toF_any W0 sa bs.length c bs (h.below hb0) rfl hl)
  have HX := Lib.hid (And.intro hb0 (And.intro x1 x2))
  have p2 : W0.cell? ⟨w.heap.size, 3, none⟩ = some (.slice sa bs.length c) := x0.cell 3
  rw [hW0] at p2
  have HW0 := Lib.hid hW0
  clear hW0 h hb0 x0 x1 x2
  go_enter Tryd.func18, Tryd.ntmps18
  go_wp2_with fail
  rw [← HW0.out]
  refine K.out.mono ?_
  rintro e w1 ⟨g, rfl, hown, hb1⟩
  have b1 : Below w.heap.size w w1 := HX.out.1.trans (hb1.mono HX.out.1.size)
  obtain ⟨r0, r1, r2, r3, f0, f1, f2, f3⟩ := (HX.out.2.1.below hb1).four
  obtain ⟨s0, s1, s2, s3, e0, e1, e2, e3⟩ := (HX.out.2.2.below hb1).four
  have z2 := (HX.out.2.2.below hb1).lt
  have z1 : w.heap.size + 1 < w1.heap.size := by omega
  have hgg := (hown.lt (k := g) rfl)
  have HE := Lib.hid (And.intro b1 hown)
  clear b1 hown hb1 p2
  go_wp2_with fail
  refine bodyPost_ret (v := .agg #[.int .i64 a, .int .i64 b, .int .i64 d, .slice (some ⟨g, 0, none⟩) bs.length bs.length]) (by simp [results, Tryd.results18, go_sem, r0, r1, r2, r3, z1, z2]) rfl ?_
  obtain ⟨b1, hown⟩ := HE.out
  refine ⟨g, rfl, ?_, ?_⟩
  · exact (((((hown.set (a := ⟨w.heap.size + 1 + 1, 3, none⟩) (by show w.heap.size + 1 + 1 < _; omega) _).set (a := ⟨w.heap.size + 1, 0, none⟩) (by show w.heap.size + 1 < _; omega) _).set (a := ⟨w.heap.size + 1, 1, none⟩) (by show w.heap.size + 1 < _; omega) _).set (a := ⟨w.heap.size + 1, 2, none⟩) (by show w.heap.size + 1 < _; omega) _).set (a := ⟨w.heap.size + 1, 3, none⟩) (by show w.heap.size + 1 < _; omega) _).mono (by omega)
  · exact ((((b1.setCell (p := ⟨w.heap.size + 1 + 1, 3, none⟩) (by show w.heap.size ≤ w.heap.size + 1 + 1; omega) _).setCell (p := ⟨w.heap.size + 1, 0, none⟩) (by show w.heap.size ≤ w.heap.size + 1; omega) _).setCell (p := ⟨w.heap.size + 1, 1, none⟩) (by show w.heap.size ≤ w.heap.size + 1; omega) _).setCell (p := ⟨w.heap.size + 1, 2, none⟩) (by show w.heap.size ≤ w.heap.size + 1; omega) _).setCell (p := ⟨w.heap.size + 1, 3, none⟩) (by show w.heap.size ≤ w.heap.size + 1; omega) _

end Go.Proofs.YtogojmimflgmmaaDoor
