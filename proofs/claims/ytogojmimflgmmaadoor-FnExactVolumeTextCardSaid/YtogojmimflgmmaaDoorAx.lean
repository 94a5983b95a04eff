/- VolumeText: the reference's and the program's. -/
import Derived.Test.YtogojmimflgmmaaDoorAw
namespace Go.Proofs.YtogojmimflgmmaaDoor
open Go.RowKit
set_option maxRecDepth 100000
set_option linter.unusedVariables false
set_option linter.unusedSimpArgs false

theorem sizedText_no (w : World) (g n2 c2 : Nat) (ns : List Nat) (sa : Option Addr) (n c : Nat) (hN : LitN w g ns) (hn2 : ns.length = n2) (hn : n ≤ 9223372036854775807) (hl : 256 < n) :
    Calls Tryd.prog 26 #[.slice (some ⟨g, 0, none⟩) n2 c2, .slice sa n c] w fun e w' => e = .returned (.tuple #[.string ⟨#[]⟩, .bool false]) ∧ Below w.heap.size w w' := by
  have K1 := Lib.hid (listText_any w g n2 c2 ns hN hn2)
  have K2 := Lib.hid (fun W => numbersText_no W sa n c hn hl)
  obtain ⟨t, ht⟩ : ∃ t : ByteArray, (⟨(lstT ns).toArray⟩ : ByteArray) = t := ⟨_, rfl⟩
  rw [ht] at K1
  clear hN ht hn hn2 hl
  go_enter Tryd.func26, Tryd.ntmps26
  go_wp2_with fail
  refine K1.out.mono ?_
  rintro e w1 ⟨rfl, hb1⟩
  go_wp2_with fail
  refine (K2.out _).mono ?_
  rintro e w2 ⟨rfl, rfl⟩
  go_wp2_with fail
  go_ret2
  exact ⟨rfl, hb1⟩

theorem LitN.made3 (W : World) (x y z : Nat) (hx : x < 100) (hy : y < 100) (hz : z < 100) : LitN (W.alloc (.cells #[.int .i64 (x : Int), .int .i64 (y : Int), .int .i64 (z : Int)] 2)) W.heap.size [x, y, z] := by
  refine ⟨by simp, ?_, ?_, by simp, by simp⟩
  · intro i hi
    have hbx := BoxN.last W #[.int .i64 (x : Int), .int .i64 (y : Int), .int .i64 (z : Int)] 2
    match i, hi with
    | 0, _ => exact hbx.cell 0
    | 1, _ => exact hbx.cell 1
    | 2, _ => exact hbx.cell 2
  · intro n hn
    simp at hn
    rcases hn with rfl | rfl | rfl
    · exact hx
    · exact hy
    · exact hz

def vtOk (a b d : Int) (n : Nat) : Bool := vVol a b d n && decide (n ≤ 256)
/-- The text of a volume that is one of few costs; none of another. -/
def vtS (a b d : Int) (n : Nat) (bs : List Nat) : List UInt8 := if vtOk a b d n = true then txtL [a.toNat, b.toNat, d.toNat] bs else []

theorem sVolumeText_any (w : World) (a b d : Int) (sa : Option Addr) (n c : Nat) (bs : List Nat) (h : SlF w (.slice sa n c) bs) :
    Calls Tryd.prog 17 #[.agg #[.int .i64 a, .int .i64 b, .int .i64 d, .slice sa n c]] w fun e w' => e = .returned (.tuple #[.string ⟨(vtS a b d n bs).toArray⟩, .bool (vtOk a b d n)]) ∧ Below w.heap.size w w' := by
  obtain ⟨W0, hW0⟩ : ∃ W, W = w.alloc (.cells #[.int .i64 a, .int .i64 b, .int .i64 d, .slice sa n c] 44) := ⟨_, rfl⟩
  have hb0 : Below w.heap.size w W0 := by rw [hW0]; exact (Below.refl _ _).alloc (Nat.le_refl _) _
  have hx : BoxN W0 w.heap.size #[.int .i64 a, .int .i64 b, .int .i64 d, .slice sa n c] 44 := by rw [hW0]; exact BoxN.last w _ _
  have KV := Lib.hid (l03Is_gen W0 w.heap.size a b d sa n c h.leX.2 (hx.cell 0) (hx.cell 1) (hx.cell 2) (hx.cell 3))
  have HX := Lib.hid (And.intro hb0 hx)
  have HW0 := Lib.hid hW0
  have hnI : (n : Int) ≤ 9223372036854775807 := by have := h.leX.2; omega
  cases hok : vVol a b d n
  · have e0 : vtOk a b d n = false := by unfold vtOk; rw [hok]; rfl
    have e : vtS a b d n bs = [] := by unfold vtS; rw [e0]; simp
    rw [e, e0]
    rw [hok] at KV
    clear h hb0 hx hW0 e e0 hok
    go_enter Tryd.func17, Tryd.ntmps17
    go_wp2_with fail
    rw [← HW0.out]
    refine KV.out.mono ?_
    rintro e w1 ⟨rfl, m, rfl⟩
    have HB := Lib.hid (below_drewN HX.out.1 m)
    go_wp2_with fail
    go_ret2
    exact ⟨rfl, HB.out⟩
  · obtain ⟨x1, x2, x3, e1, e2, e3, e4, d1, d2, d3, d4, d5, d6, d7, d8⟩ := vVol_spec hok
    subst e1 e2 e3
    rw [hok] at KV
    by_cases hl : n ≤ 256
    · have e0 : vtOk x1 x2 x3 n = true := by unfold vtOk; rw [hok, decide_eq_true hl]; rfl
      have e : vtS x1 x2 x3 n bs = txtL [x1, x2, x3] bs := by unfold vtS; rw [e0]; simp
      rw [e, e0]
      have KT := Lib.hid (fun W (hb : Below w.heap.size w W) => s08Text_any (W.alloc (.cells #[.int .i64 (x1 : Int), .int .i64 (x2 : Int), .int .i64 (x3 : Int)] 2)) W.heap.size 3 3 [x1, x2, x3] sa n c bs (LitN.made3 W x1 x2 x3 (by omega) (by omega) (by omega)) rfl (h.below (hb.alloc hb.size _)) (by omega))
      have hg : decide ((256 : Int) < (n : Int)) = false := decide_eq_false (by omega)
      clear h hb0 hx hW0 e e0 hok e4 d1 d2 d3 d4 d5 d6 d7 d8
      go_enter Tryd.func17, Tryd.ntmps17
      go_wp2_with fail
      rw [← HW0.out]
      refine KV.out.mono ?_
      rintro e w0 ⟨rfl, m, rfl⟩
      obtain ⟨w1, hw1⟩ : ∃ w1, W0.drewN m = w1 := ⟨_, rfl⟩
      have hB : Below w.heap.size w w1 := by rw [← hw1]; exact below_drewN HX.out.1 m
      have hx1 : BoxN w1 w.heap.size #[.int .i64 (x1 : Int), .int .i64 (x2 : Int), .int .i64 (x3 : Int), .slice sa n c] 44 := by rw [← hw1]; exact HX.out.2.below (below_drewN (Below.refl _ _) m)
      rw [hw1]
      obtain ⟨a0, a1, a2, a3⟩ : w1.cell? ⟨w.heap.size, 0, none⟩ = some (.int .i64 (x1 : Int)) ∧ w1.cell? ⟨w.heap.size, 1, none⟩ = some (.int .i64 (x2 : Int)) ∧ w1.cell? ⟨w.heap.size, 2, none⟩ = some (.int .i64 (x3 : Int)) ∧ w1.cell? ⟨w.heap.size, 3, none⟩ = some (.slice sa n c) := ⟨hx1.cell 0, hx1.cell 1, hx1.cell 2, hx1.cell 3⟩
      have s1 := hx1.lt
      have HB := Lib.hid hB
      clear hB hx1 hw1
      go_wp2_with fail
      clear a0 a1 a2 a3
      refine (KT.out _ HB.out).mono ?_
      rintro e w2 ⟨rfl, hb2⟩
      have HF := Lib.hid ((HB.out.alloc HB.out.size _).trans (hb2.mono (HB.out.alloc HB.out.size _).size))
      clear hb2
      go_wp2_with fail
      go_ret2
      exact ⟨rfl, HF.out⟩
    · have e0 : vtOk x1 x2 x3 n = false := by unfold vtOk; rw [decide_eq_false hl, Bool.and_false]
      have e : vtS x1 x2 x3 n bs = [] := by unfold vtS; rw [e0]; simp
      rw [e, e0]
      have hg : decide ((256 : Int) < (n : Int)) = true := decide_eq_true (by omega)
      clear h hb0 hx hW0 e e0 hok e4 d1 d2 d3 d4 d5 d6 d7 d8
      go_enter Tryd.func17, Tryd.ntmps17
      go_wp2_with fail
      rw [← HW0.out]
      refine KV.out.mono ?_
      rintro e w0 ⟨rfl, m, rfl⟩
      obtain ⟨w1, hw1⟩ : ∃ w1, W0.drewN m = w1 := ⟨_, rfl⟩
      have hB : Below w.heap.size w w1 := by rw [← hw1]; exact below_drewN HX.out.1 m
      have hx1 : BoxN w1 w.heap.size #[.int .i64 (x1 : Int), .int .i64 (x2 : Int), .int .i64 (x3 : Int), .slice sa n c] 44 := by rw [← hw1]; exact HX.out.2.below (below_drewN (Below.refl _ _) m)
      rw [hw1]
      obtain ⟨a0, a1, a2, a3⟩ : w1.cell? ⟨w.heap.size, 0, none⟩ = some (.int .i64 (x1 : Int)) ∧ w1.cell? ⟨w.heap.size, 1, none⟩ = some (.int .i64 (x2 : Int)) ∧ w1.cell? ⟨w.heap.size, 2, none⟩ = some (.int .i64 (x3 : Int)) ∧ w1.cell? ⟨w.heap.size, 3, none⟩ = some (.slice sa n c) := ⟨hx1.cell 0, hx1.cell 1, hx1.cell 2, hx1.cell 3⟩
      have s1 := hx1.lt
      have HB := Lib.hid hB
      clear hB hx1 hw1
      go_wp2_with fail
      go_ret2
      exact ⟨rfl, HB.out⟩

theorem iVolumeText_any (w : World) (a b d : Int) (sa : Option Addr) (n c : Nat) (bs : List Nat) (h : SlF w (.slice sa n c) bs) :
    Calls Tryd.prog 19 #[.agg #[.int .i64 a, .int .i64 b, .int .i64 d, .slice sa n c]] w fun e w' => e = .returned (.tuple #[.string ⟨(vtS a b d n bs).toArray⟩, .bool (vtOk a b d n)]) ∧ Below w.heap.size w w' := by
  obtain ⟨W0, hW0⟩ : ∃ W, W = w.alloc (.cells #[.int .i64 a, .int .i64 b, .int .i64 d, .slice sa n c] 44) := ⟨_, rfl⟩
  have hb0 : Below w.heap.size w W0 := by rw [hW0]; exact (Below.refl _ _).alloc (Nat.le_refl _) _
  have hx : BoxN W0 w.heap.size #[.int .i64 a, .int .i64 b, .int .i64 d, .slice sa n c] 44 := by rw [hW0]; exact BoxN.last w _ _
  have KV := Lib.hid (fun W => validVolume_any a b d sa n c h.leX.2 W)
  have HX := Lib.hid (And.intro hb0 hx)
  have HW0 := Lib.hid hW0
  have hbl := hx.lt
  have hn9 := h.leX.2
  obtain ⟨a0, a1, a2, a3⟩ : W0.cell? ⟨w.heap.size, 0, none⟩ = some (.int .i64 a) ∧ W0.cell? ⟨w.heap.size, 1, none⟩ = some (.int .i64 b) ∧ W0.cell? ⟨w.heap.size, 2, none⟩ = some (.int .i64 d) ∧ W0.cell? ⟨w.heap.size, 3, none⟩ = some (.slice sa n c) := ⟨hx.cell 0, hx.cell 1, hx.cell 2, hx.cell 3⟩
  rw [hW0] at a0 a1 a2 a3
  cases hok : vVol a b d n
  · have e0 : vtOk a b d n = false := by unfold vtOk; rw [hok]; rfl
    have e : vtS a b d n bs = [] := by unfold vtS; rw [e0]; simp
    rw [e, e0]
    rw [hok] at KV
    clear h hb0 hx hW0 e e0 hok
    go_enter Tryd.func19, Tryd.ntmps19
    go_wp2_with fail
    clear a0 a1 a2 a3
    rw [← HW0.out]
    refine (KV.out _).mono ?_
    rintro e w1 ⟨rfl, hb1⟩
    have HB := Lib.hid (HX.out.1.trans (hb1.mono HX.out.1.size))
    go_wp2_with fail
    go_ret2
    exact ⟨rfl, HB.out⟩
  · obtain ⟨x1, x2, x3, e1, e2, e3, e4, d1, d2, d3, d4, d5, d6, d7, d8⟩ := vVol_spec hok
    subst e1 e2 e3
    rw [hok] at KV
    obtain ⟨t, ht⟩ : ∃ t : ByteArray, (⟨(vtS x1 x2 x3 n bs).toArray⟩ : ByteArray) = t := ⟨_, rfl⟩
    obtain ⟨ok, hok2⟩ : ∃ ok, vtOk x1 x2 x3 n = ok := ⟨_, rfl⟩
    rw [ht, hok2]
    have KT0 : ∀ W, Below w.heap.size w W → Calls Tryd.prog 26 #[.slice (some ⟨W.heap.size, 0, none⟩) 3 3, .slice sa n c] (W.alloc (.cells #[.int .i64 (x1 : Int), .int .i64 (x2 : Int), .int .i64 (x3 : Int)] 2)) fun e w' => e = .returned (.tuple #[.string t, .bool ok]) ∧ Below (W.alloc (.cells #[.int .i64 (x1 : Int), .int .i64 (x2 : Int), .int .i64 (x3 : Int)] 2)).heap.size (W.alloc (.cells #[.int .i64 (x1 : Int), .int .i64 (x2 : Int), .int .i64 (x3 : Int)] 2)) w' := by
      intro W hb
      rw [← ht, ← hok2]
      by_cases hl : n ≤ 256
      · have e0 : vtOk x1 x2 x3 n = true := by unfold vtOk; rw [hok, decide_eq_true hl]; rfl
        have e : vtS x1 x2 x3 n bs = txtL [x1, x2, x3] bs := by unfold vtS; rw [e0]; simp
        rw [e, e0]
        exact sizedText_any _ W.heap.size 3 3 [x1, x2, x3] sa n c bs (LitN.made3 W x1 x2 x3 (by omega) (by omega) (by omega)) rfl (h.below (hb.alloc hb.size _)) hl
      · have e0 : vtOk x1 x2 x3 n = false := by unfold vtOk; rw [decide_eq_false hl, Bool.and_false]
        have e : vtS x1 x2 x3 n bs = [] := by unfold vtS; rw [e0]; simp
        rw [e, e0]
        exact sizedText_no _ W.heap.size 3 3 [x1, x2, x3] sa n c (LitN.made3 W x1 x2 x3 (by omega) (by omega) (by omega)) rfl hn9 (by omega)
    have KT := Lib.hid KT0
    clear KT0 h hb0 hx hW0 hok hok2 ht e4 d1 d2 d3 d4 d5 d6 d7 d8
    go_enter Tryd.func19, Tryd.ntmps19
    go_wp2_with fail
    clear a0 a1 a2 a3
    rw [← HW0.out]
    refine (KV.out _).mono ?_
    rintro e w1 ⟨rfl, hb1⟩
    have hB := HX.out.1.trans (hb1.mono HX.out.1.size)
    have hx1 := HX.out.2.below hb1
    obtain ⟨a0, a1, a2, a3⟩ : w1.cell? ⟨w.heap.size, 0, none⟩ = some (.int .i64 (x1 : Int)) ∧ w1.cell? ⟨w.heap.size, 1, none⟩ = some (.int .i64 (x2 : Int)) ∧ w1.cell? ⟨w.heap.size, 2, none⟩ = some (.int .i64 (x3 : Int)) ∧ w1.cell? ⟨w.heap.size, 3, none⟩ = some (.slice sa n c) := ⟨hx1.cell 0, hx1.cell 1, hx1.cell 2, hx1.cell 3⟩
    have s1 := hx1.lt
    have HB := Lib.hid hB
    clear hB hx1 hb1
    go_wp2_with fail
    clear a0 a1 a2 a3
    refine (KT.out _ HB.out).mono ?_
    rintro e w2 ⟨rfl, hb2⟩
    have HF := Lib.hid ((HB.out.alloc HB.out.size _).trans (hb2.mono (HB.out.alloc HB.out.size _).size))
    clear hb2
    go_wp2_with fail
    go_ret2
    exact ⟨rfl, HF.out⟩

end Go.Proofs.YtogojmimflgmmaaDoor
