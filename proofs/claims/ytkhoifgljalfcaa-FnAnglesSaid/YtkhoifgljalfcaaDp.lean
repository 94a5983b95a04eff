/- Vectors of words: their numbers, the length, equal ones, texts. -/
import Derived.Test.YtkhoifgljalfcaaDm
import Derived.Test.YtkhoifgljalfcaaDo
import Derived.Test.YtkhoifgljalfcaaSame
namespace Go.Proofs.Ytkhoifgljalfcaa
open Go.RowKit Ieee
set_option maxRecDepth 100000
set_option linter.unusedVariables false
set_option linter.unusedSimpArgs false

/-- A vector's numbers as a slice of its own. -/
def Nums (w : World) (a b c : Nat) (e : Ending) (w' : World) : Prop := ∃ g, e = .returned (.slice (some ⟨g, 0, none⟩) 3 3) ∧ SlF w' (.slice (some ⟨g, 0, none⟩) 3 3) [a, b, c] ∧ Below w.heap.size w w'

theorem numbers_any (w : World) {a b c : Nat} (ha : a < 4294967296) (hb : b < 4294967296) (hc : c < 4294967296) :
    Calls Try.prog 74 #[vecV a b c] w (Nums w a b c) := by
  have HL := Lib.hid (And.intro ha (And.intro hb hc))
  clear ha hb hc
  unfold vecV vecC
  go_enter Try.func74, Try.ntmps74
  go_wp2_with fail
  go_ret
  obtain ⟨ha, hb, hc⟩ := HL.out
  have hbb := below_1v w (.cells #[.float .f32 a, .float .f32 b, .float .f32 c] 29)
  refine ⟨_, rfl, ⟨⟨some ⟨w.heap.size + 1, 0, none⟩, 3, rfl, by simp, by simp, .inr ⟨w.heap.size + 1, 0, rfl, by simp, ?_⟩⟩, ?_⟩, below_2v w _ _⟩
  · intro i hi
    have hbx := BoxN.last (w.alloc (.cells #[.float .f32 a, .float .f32 b, .float .f32 c] 29)) #[.float .f32 a, .float .f32 b, .float .f32 c] 24
    rw [show (w.alloc (.cells #[.float .f32 a, .float .f32 b, .float .f32 c] 29)).heap.size = w.heap.size + 1 by simp] at hbx
    match i, hi with
    | 0, _ => exact hbx.cell 0
    | 1, _ => exact hbx.cell 1
    | 2, _ => exact hbx.cell 2
  · intro x hx
    simp at hx
    rcases hx with rfl | rfl | rfl <;> assumption

theorem sameVector_any (w : World) {a b c a' b' c' : Nat} (h1 : a < 4294967296) (h2 : b < 4294967296) (h3 : c < 4294967296) (k1 : a' < 4294967296) (k2 : b' < 4294967296) (k3 : c' < 4294967296) (he : [a, b, c].map fl = [a', b', c'].map fl) :
    Calls Try.prog 31 #[vecV a b c, vecV a' b' c'] w fun e w' => e = .returned (.bool true) ∧ Below w.heap.size w w' := by
  have N1 := Lib.hid (fun W => numbers_any W h1 h2 h3)
  have N2 := Lib.hid (fun W => numbers_any W k1 k2 k3)
  have HE := Lib.hid he
  clear h1 h2 h3 k1 k2 k3 he
  obtain ⟨W0, hW0⟩ : ∃ W, W = (w.alloc (.cells #[.float .f32 a, .float .f32 b, .float .f32 c] 29)).alloc (.cells #[.float .f32 a', .float .f32 b', .float .f32 c'] 29) := ⟨_, rfl⟩
  have hb0 : Below w.heap.size w W0 := by rw [hW0]; exact below_2v w _ _
  have hx1 : BoxN W0 (w.heap.size + 1) #[.float .f32 a', .float .f32 b', .float .f32 c'] 29 := by
    rw [hW0]
    have := BoxN.last (w.alloc (.cells #[.float .f32 a, .float .f32 b, .float .f32 c] 29)) #[.float .f32 a', .float .f32 b', .float .f32 c'] 29
    rwa [show (w.alloc (.cells #[.float .f32 a, .float .f32 b, .float .f32 c] 29)).heap.size = w.heap.size + 1 by simp] at this
  have hx0 : BoxN W0 w.heap.size #[.float .f32 a, .float .f32 b, .float .f32 c] 29 := by
    rw [hW0]
    exact (BoxN.last w #[.float .f32 a, .float .f32 b, .float .f32 c] 29).below ((Below.refl _ _).alloc (Nat.le_refl _) _)
  have HW0 := Lib.hid hW0
  have HX := Lib.hid (And.intro hb0 (And.intro hx0 hx1))
  clear hW0 hb0 hx0 hx1
  unfold vecV vecC at *
  go_enter Try.func31, Try.ntmps31
  go_upto_region 1 with fail
  rw [← HW0.out]
  have SV := Lib.hid (fun W (hW : Below W0.heap.size W0 W) => (show (W.cell? ⟨w.heap.size, 0, none⟩ = some (.float .f32 a) ∧ W.cell? ⟨w.heap.size, 1, none⟩ = some (.float .f32 b) ∧ W.cell? ⟨w.heap.size, 2, none⟩ = some (.float .f32 c) ∧ W.cell? ⟨w.heap.size + 1, 0, none⟩ = some (.float .f32 a') ∧ W.cell? ⟨w.heap.size + 1, 1, none⟩ = some (.float .f32 b') ∧ W.cell? ⟨w.heap.size + 1, 2, none⟩ = some (.float .f32 c')) from
    ⟨(three_cells HX.out.2.1 hW).1, (three_cells HX.out.2.1 hW).2.1, (three_cells HX.out.2.1 hW).2.2, (three_cells HX.out.2.2 hW).1, (three_cells HX.out.2.2 hW).2.1, (three_cells HX.out.2.2 hW).2.2⟩))
  have hA1 : Below W0.heap.size W0 W0.drew := below_drewN (Below.refl _ _) 1
  go_region_held3 (fun W => (W.cell? ⟨w.heap.size, 0, none⟩ = some (.float .f32 a) ∧ W.cell? ⟨w.heap.size, 1, none⟩ = some (.float .f32 b) ∧ W.cell? ⟨w.heap.size, 2, none⟩ = some (.float .f32 c) ∧ W.cell? ⟨w.heap.size + 1, 0, none⟩ = some (.float .f32 a') ∧ W.cell? ⟨w.heap.size + 1, 1, none⟩ = some (.float .f32 b') ∧ W.cell? ⟨w.heap.size + 1, 2, none⟩ = some (.float .f32 c')))
    (first | exact SV.out _ hW2 | exact SV.out _ hW1 | exact SV.out _ hA1 | exact SV.out _ (Below.refl _ _) | go_keep)
    (first
      | (go_at_call 74; (with_reducible refine (N1.out _).mono ?_); rintro e w1 ⟨g1, rfl, s1, hb1⟩; have hW1 := hA1.trans (hb1.mono hA1.size))
      | (go_at_call 74; (with_reducible refine (N2.out _).mono ?_); rintro e w2 ⟨g2, rfl, s2, hb2⟩; have hW2 := hW1.trans (hb2.mono hW1.size); have t1 := s1.below hb2)
      | (go_at_call 73; (with_reducible refine (sameList_yes _ _ _ _ _ t1 s2 HE.out).mono ?_); rintro e w3 ⟨rfl, rfl⟩))
  go_wp2_with fail
  go_ret
  exact ⟨rfl, HX.out.1.trans (hW2.mono HX.out.1.size)⟩

theorem long_any (w : World) {v : Value} {r q : Nat} (hr : RootW r q) (h : ∀ W : World, Calls Try.prog 50 #[v, v] W fun e w' => e = .returned (.float .f32 r) ∧ Below W.heap.size W w') (hv : ∃ a b c, v = vecV a b c) :
    Calls Try.prog 10 #[v] w fun e w' => e = .returned (.float .f32 q) ∧ Below w.heap.size w w' := by
  obtain ⟨a, b, c, rfl⟩ := hv
  have K1 := Lib.hid h
  have K2 := Lib.hid (fun W => iRoot_any W hr)
  clear h hr
  unfold vecV vecC at *
  have HB := Lib.hid (below_1v w (.cells #[.float .f32 a, .float .f32 b, .float .f32 c] 29))
  go_enter Try.func10, Try.ntmps10
  go_wp2_with fail
  refine (K1.out _).mono ?_
  rintro e w1 ⟨rfl, hb1⟩
  have H1 := Lib.hid (HB.out.trans (hb1.mono HB.out.size))
  clear hb1
  go_wp2_with fail
  refine (K2.out _).mono ?_
  rintro e w2 ⟨rfl, rfl⟩
  go_wp2_with fail
  go_ret
  exact ⟨rfl, H1.out⟩

end Go.Proofs.Ytkhoifgljalfcaa
