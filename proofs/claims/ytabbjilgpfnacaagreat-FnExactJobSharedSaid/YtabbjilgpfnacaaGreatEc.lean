/- Volumes of two pictures, of any arguments: the reference's SquareVolume, SizeVolume, DeskVolume. -/
import Derived.Test.YtabbjilgpfnacaaGreatEb
namespace Go.Proofs.YtabbjilgpfnacaaGreat
open Go.RowKit Ieee
set_option maxRecDepth 100000
set_option linter.unusedVariables false
set_option linter.unusedSimpArgs false

/-- What a volume is told to be: whether there is one, its sizes, its costs but for the kinds of not-a-number. -/
structure VolT where
  ok : Bool
  a : Int
  b : Int
  d : Int
  L : List Nat
def noVol : VolT := ⟨false, 0, 0, 0, []⟩
def VRes (t : VolT) (w : World) (e : Ending) (w' : World) : Prop :=
  ∃ s c bs, e = .returned (.tuple #[.agg #[.int .i64 t.a, .int .i64 t.b, .int .i64 t.d, .slice s (List.length bs) c], .bool t.ok]) ∧ OwnF w' w.heap.size (.slice s (List.length bs) c) bs ∧ bs.map fl = t.L ∧ Below w.heap.size w w'
theorem VRes.no {w w' : World} (hb : Below w.heap.size w w') : VRes noVol w (.returned (.tuple #[.agg #[.int .i64 0, .int .i64 0, .int .i64 0, .slice none 0 0], .bool false])) w' :=
  ⟨Option.none, 0, [], rfl, OwnF.nil _ _, rfl, hb⟩
/-- The volume of two pictures: of squares, or of absolute values. -/
def pairT (s : Bool) (p q : Tri) (dp : Int) (xs ys : List Nat) : VolT :=
  if pairD p q dp then ⟨true, p.a, p.b, dp, tabV p.a.toNat dp.toNat (cmW s xs ys p.a.toNat p.b.toNat) (p.b.toNat * p.a.toNat * dp.toNat)⟩ else noVol
theorem pairD_spec {p q : Tri} {dp : Int} (h : pairD p q dp = true) : ∃ wd hi k : Nat, p.a = wd ∧ p.b = hi ∧ q.a = wd ∧ q.b = hi ∧ dp = k ∧ p.l = wd * hi ∧ q.l = wd * hi ∧ 1 ≤ wd ∧ wd ≤ 24 ∧ 1 ≤ hi ∧ hi ≤ 24 ∧ wd * hi ≤ 256 ∧ 1 ≤ k ∧ k ≤ 8 := by
  unfold pairD pairV Tri.ok at h
  simp only [Bool.and_eq_true, decide_eq_true_eq, beq_iff_eq] at h
  obtain ⟨⟨⟨⟨h1, h2⟩, h3⟩, h4⟩, h5, h6⟩ := h
  obtain ⟨wd, hi, g1, g2, g3, g4, g5, g6, g7, g8⟩ := vPic_spec h1
  obtain ⟨wd2, hi2, k1, k2, k3, k4, k5, k6, k7, k8⟩ := vPic_spec h2
  obtain ⟨k, rfl⟩ := Int.eq_ofNat_of_zero_le (show 0 ≤ dp by omega)
  have e1 : wd2 = wd := by omega
  have e2 : hi2 = hi := by omega
  subst e1 e2
  exact ⟨wd2, hi2, k, g1, g2, k1, k2, rfl, g3, k3, g4, g5, g6, g7, g8, by omega, by omega⟩
theorem pairT_yes {s : Bool} {p q : Tri} {dp : Int} {xs ys : List Nat} {wd hi k : Nat} (h : pairD p q dp = true) (e1 : p.a = wd) (e2 : p.b = hi) (e3 : dp = k) : pairT s p q dp xs ys = ⟨true, wd, hi, k, tabV wd k (cmW s xs ys wd hi) (hi * wd * k)⟩ := by
  unfold pairT; rw [if_pos h, e1, e2, e3]; simp
theorem pairT_no {s : Bool} {p q : Tri} {dp : Int} {xs ys : List Nat} (h : pairD p q dp = false) : pairT s p q dp xs ys = noVol := by
  unfold pairT; rw [h]; simp

theorem threeE {w W : World} {x y z x' y' z' : Value} {cs : Array Value} {T U V : TypeId} (h : W = ((w.alloc (.cells #[x, y, z] T)).alloc (.cells #[x', y', z'] U)).alloc (.cells cs V)) :
    Below w.heap.size w W ∧ Box3 W w.heap.size x y z T ∧ Box3 W (w.heap.size + 1) x' y' z' U ∧ BoxN W (w.heap.size + 1 + 1) cs V := by
  subst h
  refine ⟨(below_two w _ _).alloc (by simp; omega) _, (box_first w _ _ _ _ _).below ((Below.refl _ _).alloc (Nat.le_refl _) _), (box_second w _ _ _ _ _).below ((Below.refl _ _).alloc (Nat.le_refl _) _), ?_⟩
  have := BoxN.last ((w.alloc (.cells #[x, y, z] T)).alloc (.cells #[x', y', z'] U)) cs V
  simpa using this
theorem own_set4 {W : World} {B b : Nat} {v : Value} {bs : List Nat} (h : OwnF W B v bs) (hb : b < B) (x y z u : Value) : OwnF ((((W.setCell ⟨b, 0, none⟩ x).setCell ⟨b, 1, none⟩ y).setCell ⟨b, 2, none⟩ z).setCell ⟨b, 3, none⟩ u) B v bs :=
  (((h.set (a := ⟨b, 0, none⟩) hb x).set (a := ⟨b, 1, none⟩) hb y).set (a := ⟨b, 2, none⟩) hb z).set (a := ⟨b, 3, none⟩) hb u
theorem below_set4 {B b : Nat} {w W : World} (h : Below B w W) (hb : B ≤ b) (x y z u : Value) : Below B w ((((W.setCell ⟨b, 0, none⟩ x).setCell ⟨b, 1, none⟩ y).setCell ⟨b, 2, none⟩ z).setCell ⟨b, 3, none⟩ u) :=
  (((h.setCell (p := ⟨b, 0, none⟩) hb x).setCell (p := ⟨b, 1, none⟩) hb y).setCell (p := ⟨b, 2, none⟩) hb z).setCell (p := ⟨b, 3, none⟩) hb u

theorem sSquare_any (w : World) (p q : Tri) (dp : Int) (xs ys : List Nat) (hp : SlF w (.slice p.s p.l p.c) xs) (hq : SlF w (.slice q.s q.l q.c) ys) :
    Calls Tryz.prog 38 #[.agg #[.int .i64 p.a, .int .i64 p.b, .slice p.s p.l p.c], .agg #[.int .i64 q.a, .int .i64 q.b, .slice q.s q.l q.c], .int .i64 dp] w (VRes (pairT true p q dp xs ys) w) := by
  obtain ⟨W0, hW0⟩ : ∃ W, W = ((w.alloc (.cells #[.int .i64 p.a, .int .i64 p.b, .slice p.s p.l p.c] 35)).alloc (.cells #[.int .i64 q.a, .int .i64 q.b, .slice q.s q.l q.c] 35)).alloc (.cells #[.int .i64 0, .int .i64 0, .int .i64 0, .slice none 0 0] 62) := ⟨_, rfl⟩
  obtain ⟨hb0, B1, B2, BZ⟩ := threeE hW0
  have A1 : p.at_ W0 w.heap.size 0 := ⟨B1.cells.1, B1.cells.2.1, B1.cells.2.2.1⟩
  have A2 : q.at_ W0 (w.heap.size + 1) 0 := ⟨B2.cells.1, B2.cells.2.1, B2.cells.2.2.1⟩
  have KP := Lib.hid (l03Pair_gen W0 w.heap.size (w.heap.size + 1) 0 0 p q dp A1 A2 hp.leE.2 hq.leE.2)
  have HW0 := Lib.hid hW0
  cases h : pairD p q dp
  · rw [pairT_no h]
    rw [h] at KP
    have HB := Lib.hid (And.intro hb0 BZ)
    clear hb0 B1 B2 A1 A2 hW0 hp hq h BZ
    go_enter Tryz.func38, Tryz.ntmps38
    go_wp2_with fail
    rw [← HW0.out]
    refine KP.out.mono ?_
    rintro e w1 ⟨rfl, n, rfl⟩
    have hF := below_drewN HB.out.1 n
    obtain ⟨d0, d1, d2, d3, g0, g1, g2, g3⟩ := (HB.out.2.drewN n).four
    have hlt3 := (HB.out.2.drewN n).lt
    go_wp2_with fail
    refine bodyPost_ret (v := .tuple #[.agg #[.int .i64 0, .int .i64 0, .int .i64 0, .slice none 0 0], .bool false]) (by simp [results, Tryz.results38, go_sem, d0, d1, d2, d3, hlt3]) rfl ?_
    exact VRes.no (below_set4 hF (by omega) _ _ _ _)
  · obtain ⟨wd, hi, k, e1, e2, e3, e4, e5, e6, e7, e8, e9, e10, e11, e12, e13, e14⟩ := pairD_spec h
    rw [pairT_yes h e1 e2 e5]
    rw [h] at KP
    rw [e1, e2] at B1
    rw [e3, e4] at B2
    have P1 : PicI W0 w.heap.size 0 wd hi (.slice p.s p.l p.c) xs := ⟨B1.cells.1, B1.cells.2.1, B1.cells.2.2.1, hp.below hb0, by rw [hp.leE.1, e6], B1.lt⟩
    have P2 : PicI W0 (w.heap.size + 1) 0 wd hi (.slice q.s q.l q.c) ys := ⟨B2.cells.1, B2.cells.2.1, B2.cells.2.2.1, hq.below hb0, by rw [hq.leE.1, e7], B2.lt⟩
    have KC := Lib.hid (fun n => l03Compare_gen (W0.drewN n) w.heap.size (w.heap.size + 1) 0 0 wd hi k _ _ xs ys true e8 e9 e10 e11 e13 e14 (P1.below (below_drewN (Below.refl _ _) n)) (P2.below (below_drewN (Below.refl _ _) n)))
    have HB := Lib.hid (And.intro hb0 BZ)
    rw [e5] at KP ⊢
    clear BZ hb0 B1 B2 A1 A2 hW0 hp hq h P1 P2 e1 e2 e3 e4 e5 e6 e7 e8 e9 e10 e11 e12 e13 e14
    go_enter Tryz.func38, Tryz.ntmps38
    go_wp2_with fail
    rw [← HW0.out]
    refine KP.out.mono ?_
    rintro e w1 ⟨rfl, n, rfl⟩
    go_wp2_with fail
    refine (KC.out n).mono ?_
    rintro e w2 ⟨s, c, bs, rfl, ho, hc, hb⟩
    have hb2 := below_drewN HB.out.1 n
    have hF := hb2.trans (hb.mono hb2.size)
    have hz := (HB.out.2.drewN n).below hb
    obtain ⟨d0, d1, d2, d3, g0, g1, g2, g3⟩ := hz.four
    have hlt3 := hz.lt
    have hz0 := HB.out.2.lt
    have HF := Lib.hid (And.intro ho hc)
    clear ho hc hb hz
    go_wp2_with fail
    refine bodyPost_ret (v := .tuple #[.agg #[.int .i64 wd, .int .i64 hi, .int .i64 k, .slice s bs.length c], .bool true]) (by simp [results, Tryz.results38, go_sem, d0, d1, d2, d3, hlt3]) rfl ?_
    exact ⟨s, c, bs, rfl, (own_set4 HF.out.1 hz0 _ _ _ _).mono hb2.size, HF.out.2, below_set4 hF (by omega) _ _ _ _⟩

theorem sSize_any (w : World) (p q : Tri) (dp : Int) (xs ys : List Nat) (hp : SlF w (.slice p.s p.l p.c) xs) (hq : SlF w (.slice q.s q.l q.c) ys) :
    Calls Tryz.prog 39 #[.agg #[.int .i64 p.a, .int .i64 p.b, .slice p.s p.l p.c], .agg #[.int .i64 q.a, .int .i64 q.b, .slice q.s q.l q.c], .int .i64 dp] w (VRes (pairT false p q dp xs ys) w) := by
  obtain ⟨W0, hW0⟩ : ∃ W, W = ((w.alloc (.cells #[.int .i64 p.a, .int .i64 p.b, .slice p.s p.l p.c] 35)).alloc (.cells #[.int .i64 q.a, .int .i64 q.b, .slice q.s q.l q.c] 35)).alloc (.cells #[.int .i64 0, .int .i64 0, .int .i64 0, .slice none 0 0] 62) := ⟨_, rfl⟩
  obtain ⟨hb0, B1, B2, BZ⟩ := threeE hW0
  have A1 : p.at_ W0 w.heap.size 0 := ⟨B1.cells.1, B1.cells.2.1, B1.cells.2.2.1⟩
  have A2 : q.at_ W0 (w.heap.size + 1) 0 := ⟨B2.cells.1, B2.cells.2.1, B2.cells.2.2.1⟩
  have KP := Lib.hid (l03Pair_gen W0 w.heap.size (w.heap.size + 1) 0 0 p q dp A1 A2 hp.leE.2 hq.leE.2)
  have HW0 := Lib.hid hW0
  cases h : pairD p q dp
  · rw [pairT_no h]
    rw [h] at KP
    have HB := Lib.hid (And.intro hb0 BZ)
    clear hb0 B1 B2 A1 A2 hW0 hp hq h BZ
    go_enter Tryz.func39, Tryz.ntmps39
    go_wp2_with fail
    rw [← HW0.out]
    refine KP.out.mono ?_
    rintro e w1 ⟨rfl, n, rfl⟩
    have hF := below_drewN HB.out.1 n
    obtain ⟨d0, d1, d2, d3, g0, g1, g2, g3⟩ := (HB.out.2.drewN n).four
    have hlt3 := (HB.out.2.drewN n).lt
    go_wp2_with fail
    refine bodyPost_ret (v := .tuple #[.agg #[.int .i64 0, .int .i64 0, .int .i64 0, .slice none 0 0], .bool false]) (by simp [results, Tryz.results39, go_sem, d0, d1, d2, d3, hlt3]) rfl ?_
    exact VRes.no (below_set4 hF (by omega) _ _ _ _)
  · obtain ⟨wd, hi, k, e1, e2, e3, e4, e5, e6, e7, e8, e9, e10, e11, e12, e13, e14⟩ := pairD_spec h
    rw [pairT_yes h e1 e2 e5]
    rw [h] at KP
    rw [e1, e2] at B1
    rw [e3, e4] at B2
    have P1 : PicI W0 w.heap.size 0 wd hi (.slice p.s p.l p.c) xs := ⟨B1.cells.1, B1.cells.2.1, B1.cells.2.2.1, hp.below hb0, by rw [hp.leE.1, e6], B1.lt⟩
    have P2 : PicI W0 (w.heap.size + 1) 0 wd hi (.slice q.s q.l q.c) ys := ⟨B2.cells.1, B2.cells.2.1, B2.cells.2.2.1, hq.below hb0, by rw [hq.leE.1, e7], B2.lt⟩
    have KC := Lib.hid (fun n => l03Compare_gen (W0.drewN n) w.heap.size (w.heap.size + 1) 0 0 wd hi k _ _ xs ys false e8 e9 e10 e11 e13 e14 (P1.below (below_drewN (Below.refl _ _) n)) (P2.below (below_drewN (Below.refl _ _) n)))
    have HB := Lib.hid (And.intro hb0 BZ)
    rw [e5] at KP ⊢
    clear BZ hb0 B1 B2 A1 A2 hW0 hp hq h P1 P2 e1 e2 e3 e4 e5 e6 e7 e8 e9 e10 e11 e12 e13 e14
    go_enter Tryz.func39, Tryz.ntmps39
    go_wp2_with fail
    rw [← HW0.out]
    refine KP.out.mono ?_
    rintro e w1 ⟨rfl, n, rfl⟩
    go_wp2_with fail
    refine (KC.out n).mono ?_
    rintro e w2 ⟨s, c, bs, rfl, ho, hc, hb⟩
    have hb2 := below_drewN HB.out.1 n
    have hF := hb2.trans (hb.mono hb2.size)
    have hz := (HB.out.2.drewN n).below hb
    obtain ⟨d0, d1, d2, d3, g0, g1, g2, g3⟩ := hz.four
    have hlt3 := hz.lt
    have hz0 := HB.out.2.lt
    have HF := Lib.hid (And.intro ho hc)
    clear ho hc hb hz
    go_wp2_with fail
    refine bodyPost_ret (v := .tuple #[.agg #[.int .i64 wd, .int .i64 hi, .int .i64 k, .slice s bs.length c], .bool true]) (by simp [results, Tryz.results39, go_sem, d0, d1, d2, d3, hlt3]) rfl ?_
    exact ⟨s, c, bs, rfl, (own_set4 HF.out.1 hz0 _ _ _ _).mono hb2.size, HF.out.2, below_set4 hF (by omega) _ _ _ _⟩

/-- The volume of a desk. -/
def deskT (p q m : Tri) (dp : Int) (xs ys : List Nat) : VolT := if fits p m && fits q m then pairT true p q dp xs ys else noVol

end Go.Proofs.YtabbjilgpfnacaaGreat
