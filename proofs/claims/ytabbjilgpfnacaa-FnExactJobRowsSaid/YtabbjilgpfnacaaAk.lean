/- Desks: sizes and copies of an argument. -/
import Derived.Test.YtabbjilgpfnacaaAj
namespace Go.Proofs.Ytabbjilgpfnacaa
open Go.RowKit Ieee
set_option maxRecDepth 100000
set_option linter.unusedVariables false
set_option linter.unusedSimpArgs false

/-- A size that is told: not negative only where all slices are small. -/
def SzPost (w : World) (p q m : Tri) (e : Ending) (w' : World) : Prop :=
  Below w.heap.size w w' ∧ ((e = .returned (.int .i64 (-1))) ∨ ∃ z : Nat, e = .returned (.int .i64 (z : Int)) ∧ p.l ≤ 1048576 ∧ q.l ≤ 1048576 ∧ m.l ≤ 1048576)

set_option maxHeartbeats 1000000 in
theorem szDesk_any (w : World) (p q m : Tri) (hl : p.l ≤ 9223372036854775807) (hl1 : q.l ≤ 9223372036854775807) (hl2 : m.l ≤ 9223372036854775807) :
    Calls Try.prog 7 #[.agg (desk p q m), .int .i64 1048576] w (SzPost w p q m) := by
  obtain ⟨W0, hW0⟩ : ∃ W, W = w.alloc (.cells (desk p q m) 28) := ⟨_, rfl⟩
  have hb : Below w.heap.size w W0 := by rw [hW0]; exact (Below.refl _ _).alloc (Nat.le_refl _) _
  have hlt : w.heap.size < W0.heap.size := by rw [hW0]; simp
  have hat := desk_at w p q m 28
  rw [← hW0] at hat
  have HB := Lib.hid (And.intro hb (And.intro hlt hat))
  have HW0 := Lib.hid hW0
  clear hb hlt hat hW0
  by_cases h1 : p.l ≤ 1048576
  · by_cases h2 : q.l ≤ 1048576 - p.l
    · by_cases h3 : m.l ≤ 1048576 - p.l - q.l
      · have K1 := Lib.hid (fun w => szP_any w p.a p.b p.s p.l p.c 1048576 (Nat.le_refl _) hl)
        have K2 := Lib.hid (fun w => szP_any w q.a q.b q.s q.l q.c (1048576 - p.l) (by omega) hl1)
        have K3 := Lib.hid (fun w => szM_any w m.a m.b m.s m.l m.c (1048576 - p.l - q.l) (by omega) hl2)
        unfold szL at K1 K2 K3
        rw [if_pos h1] at K1
        rw [if_pos h2] at K2
        rw [if_pos h3] at K3
        have HL := Lib.hid (And.intro h1 (And.intro (show q.l ≤ 1048576 by omega) (show m.l ≤ 1048576 by omega)))
        obtain ⟨y0, hy0⟩ : ∃ y : Nat, 1048576 = y := ⟨_, rfl⟩
        rw [show ((1048576 : Nat) : Int) = 1048576 from rfl] at K1
        obtain ⟨y1, hy1⟩ : ∃ y : Nat, 1048576 - p.l = y := ⟨_, rfl⟩
        rw [hy1] at K1 K2 K3
        obtain ⟨y2, hy2⟩ : ∃ y : Nat, y1 - q.l = y := ⟨_, rfl⟩
        rw [hy2] at K2 K3
        obtain ⟨y3, hy3⟩ : ∃ y : Nat, y2 - m.l = y := ⟨_, rfl⟩
        rw [hy3] at K3
        have z1 : decide ((y1 : Int) < 0) = false := decide_eq_false (by omega)
        have z2 : decide ((y2 : Int) < 0) = false := decide_eq_false (by omega)
        have z3 : decide ((y3 : Int) < 0) = false := decide_eq_false (by omega)
        clear hy0 hy1 hy2 hy3 h1 h2 h3 hl hl1 hl2
        unfold desk at *
        go_enter Try.func7, Try.ntmps7
        go_wp2_with fail
        rw [← HW0.out]
        refine (K1.out _).mono ?_
        rintro e w1 ⟨rfl, hb1⟩
        have hbb := HB.out.1.trans (hb1.mono HB.out.1.size)
        have hz1 : w.heap.size < w1.heap.size := Nat.lt_of_lt_of_le HB.out.2.1 hb1.size
        obtain ⟨c0, c1, c2⟩ := HB.out.2.2.2.1.below HB.out.2.1 hb1
        have HC := Lib.hid (HB.out.2.2.2.2.below HB.out.2.1 hb1)
        have HBB := Lib.hid hbb
        clear hbb hb1
        go_wp2_with fail
        refine (K2.out _).mono ?_
        rintro e w2 ⟨rfl, hb2⟩
        clear c0 c1 c2
        have hz2 : w.heap.size < w2.heap.size := Nat.lt_of_lt_of_le hz1 hb2.size
        obtain ⟨c0, c1, c2⟩ := HC.out.below hz1 hb2
        have HBC := Lib.hid (HBB.out.trans (hb2.mono HBB.out.size))
        clear hb2
        go_wp2_with fail
        refine (K3.out _).mono ?_
        rintro e w3 ⟨rfl, hb3⟩
        clear c0 c1 c2
        have HBD := Lib.hid (HBC.out.trans (hb3.mono HBC.out.size))
        clear hb3
        go_wp2_with fail
        go_ret
        exact ⟨HBD.out, .inr ⟨y3, rfl, HL.out⟩⟩
      · have K1 := Lib.hid (fun w => szP_any w p.a p.b p.s p.l p.c 1048576 (Nat.le_refl _) hl)
        have K2 := Lib.hid (fun w => szP_any w q.a q.b q.s q.l q.c (1048576 - p.l) (by omega) hl1)
        have K3 := Lib.hid (fun w => szM_any w m.a m.b m.s m.l m.c (1048576 - p.l - q.l) (by omega) hl2)
        unfold szL at K1 K2 K3
        rw [if_pos h1] at K1
        rw [if_pos h2] at K2
        rw [if_neg h3] at K3
        rw [show ((1048576 : Nat) : Int) = 1048576 from rfl] at K1
        obtain ⟨y1, hy1⟩ : ∃ y : Nat, 1048576 - p.l = y := ⟨_, rfl⟩
        rw [hy1] at K1 K2 K3
        obtain ⟨y2, hy2⟩ : ∃ y : Nat, y1 - q.l = y := ⟨_, rfl⟩
        rw [hy2] at K2 K3
        have z1 : decide ((y1 : Int) < 0) = false := decide_eq_false (by omega)
        have z2 : decide ((y2 : Int) < 0) = false := decide_eq_false (by omega)
        clear hy1 hy2 h1 h2 h3 hl hl1 hl2
        unfold desk at *
        go_enter Try.func7, Try.ntmps7
        go_wp2_with fail
        rw [← HW0.out]
        refine (K1.out _).mono ?_
        rintro e w1 ⟨rfl, hb1⟩
        have hbb := HB.out.1.trans (hb1.mono HB.out.1.size)
        have hz1 : w.heap.size < w1.heap.size := Nat.lt_of_lt_of_le HB.out.2.1 hb1.size
        obtain ⟨c0, c1, c2⟩ := HB.out.2.2.2.1.below HB.out.2.1 hb1
        have HC := Lib.hid (HB.out.2.2.2.2.below HB.out.2.1 hb1)
        have HBB := Lib.hid hbb
        clear hbb hb1
        go_wp2_with fail
        refine (K2.out _).mono ?_
        rintro e w2 ⟨rfl, hb2⟩
        clear c0 c1 c2
        have hz2 : w.heap.size < w2.heap.size := Nat.lt_of_lt_of_le hz1 hb2.size
        obtain ⟨c0, c1, c2⟩ := HC.out.below hz1 hb2
        have HBC := Lib.hid (HBB.out.trans (hb2.mono HBB.out.size))
        clear hb2
        go_wp2_with fail
        refine (K3.out _).mono ?_
        rintro e w3 ⟨rfl, hb3⟩
        clear c0 c1 c2
        have HBD := Lib.hid (HBC.out.trans (hb3.mono HBC.out.size))
        clear hb3
        go_wp2_with fail
        go_ret
        exact ⟨HBD.out, .inl rfl⟩
    · have K1 := Lib.hid (fun w => szP_any w p.a p.b p.s p.l p.c 1048576 (Nat.le_refl _) hl)
      have K2 := Lib.hid (fun w => szP_any w q.a q.b q.s q.l q.c (1048576 - p.l) (by omega) hl1)
      unfold szL at K1 K2
      rw [if_pos h1] at K1
      rw [if_neg h2] at K2
      rw [show ((1048576 : Nat) : Int) = 1048576 from rfl] at K1
      obtain ⟨y1, hy1⟩ : ∃ y : Nat, 1048576 - p.l = y := ⟨_, rfl⟩
      rw [hy1] at K1 K2
      have z1 : decide ((y1 : Int) < 0) = false := decide_eq_false (by omega)
      clear hy1 h1 h2 hl hl1 hl2
      unfold desk at *
      go_enter Try.func7, Try.ntmps7
      go_wp2_with fail
      rw [← HW0.out]
      refine (K1.out _).mono ?_
      rintro e w1 ⟨rfl, hb1⟩
      have hbb := HB.out.1.trans (hb1.mono HB.out.1.size)
      have hz1 : w.heap.size < w1.heap.size := Nat.lt_of_lt_of_le HB.out.2.1 hb1.size
      obtain ⟨c0, c1, c2⟩ := HB.out.2.2.2.1.below HB.out.2.1 hb1
      have HBB := Lib.hid hbb
      clear hbb hb1
      go_wp2_with fail
      refine (K2.out _).mono ?_
      rintro e w2 ⟨rfl, hb2⟩
      clear c0 c1 c2
      have HBC := Lib.hid (HBB.out.trans (hb2.mono HBB.out.size))
      clear hb2
      go_wp2_with fail
      go_ret
      exact ⟨HBC.out, .inl rfl⟩
  · have K1 := Lib.hid (fun w => szP_any w p.a p.b p.s p.l p.c 1048576 (Nat.le_refl _) hl)
    unfold szL at K1
    rw [if_neg h1] at K1
    rw [show ((1048576 : Nat) : Int) = 1048576 from rfl] at K1
    clear h1 hl hl1 hl2
    unfold desk at *
    go_enter Try.func7, Try.ntmps7
    go_wp2_with fail
    rw [← HW0.out]
    refine (K1.out _).mono ?_
    rintro e w1 ⟨rfl, hb1⟩
    have HBB := Lib.hid (HB.out.1.trans (hb1.mono HB.out.1.size))
    clear hb1
    go_wp2_with fail
    go_ret
    exact ⟨HBB.out, .inl rfl⟩

/-- A desk that a call makes, with its lists. -/
def MakesD2 (w : World) (p q m : Tri) (xs ys zs : List Nat) (e : Ending) (w' : World) : Prop :=
  ∃ g1 g2 g3, e = .returned (.agg (desk ⟨p.a, p.b, some ⟨g1, 0, none⟩, p.l, p.l⟩ ⟨q.a, q.b, some ⟨g2, 0, none⟩, q.l, q.l⟩ ⟨m.a, m.b, some ⟨g3, 0, none⟩, m.l, m.l⟩)) ∧
    OwnF w' w.heap.size (.slice (some ⟨g1, 0, none⟩) p.l p.l) xs ∧ OwnF w' w.heap.size (.slice (some ⟨g2, 0, none⟩) q.l q.l) ys ∧ OwnF w' w.heap.size (.slice (some ⟨g3, 0, none⟩) m.l m.l) zs ∧ Below w.heap.size w w'

/-- The same, and its slices lie in blocks that are three. -/
def MakesD3 (w : World) (p q m : Tri) (xs ys zs : List Nat) (e : Ending) (w' : World) : Prop :=
  ∃ g1 g2 g3, e = .returned (.agg (desk ⟨p.a, p.b, some ⟨g1, 0, none⟩, p.l, p.l⟩ ⟨q.a, q.b, some ⟨g2, 0, none⟩, q.l, q.l⟩ ⟨m.a, m.b, some ⟨g3, 0, none⟩, m.l, m.l⟩)) ∧
    OwnF w' w.heap.size (.slice (some ⟨g1, 0, none⟩) p.l p.l) xs ∧ OwnF w' w.heap.size (.slice (some ⟨g2, 0, none⟩) q.l q.l) ys ∧ OwnF w' w.heap.size (.slice (some ⟨g3, 0, none⟩) m.l m.l) zs ∧ g1 < g2 ∧ g2 < g3 ∧ Below w.heap.size w w'

/-- A desk that is being copied. -/
structure DkSt (w W : World) (p q m : Tri) (cs : Array Value) : Prop where
  bel : Below w.heap.size w W
  lt : w.heap.size + 1 + 1 + 1 ≤ W.heap.size
  pa : p.at_ W w.heap.size 0
  qa : q.at_ W w.heap.size 3
  ma : m.at_ W w.heap.size 6
  res : BoxN W (w.heap.size + 1) #[.int .i64 0, .int .i64 0, .slice none 0 0, .int .i64 0, .int .i64 0, .slice none 0 0, .int .i64 0, .int .i64 0, .slice none 0 0] 37
  box : BoxN W (w.heap.size + 1 + 1) cs 37

theorem DkSt.below {w W W' : World} {p q m : Tri} {cs : Array Value} (h : DkSt w W p q m cs) (hb : Below W.heap.size W W') : DkSt w W' p q m cs := by
  have hl := h.lt
  exact ⟨h.bel.trans (hb.mono h.bel.size), Nat.le_trans h.lt hb.size, h.pa.below (by omega) hb, h.qa.below (by omega) hb, h.ma.below (by omega) hb, h.res.below hb, h.box.below hb⟩

theorem Tri.at_.grown {t : Tri} {W W' : World} {pb o0 r : Nat} (h : t.at_ W pb o0) (hl : pb < W.heap.size) (hg : W.grownBy W' (some r)) (hr : pb ≠ r) : t.at_ W' pb o0 := by
  have e : W'.heap[pb]? = W.heap[pb]? := hg.block pb hl (by intro e; injection e with e; exact hr e)
  have z : ∀ j, W'.cell? ⟨pb, j, none⟩ = W.cell? ⟨pb, j, none⟩ := fun j => by simp only [World.cell?, e]
  exact ⟨by rw [z]; exact h.1, by rw [z]; exact h.2.1, by rw [z]; exact h.2.2⟩

theorem DkSt.set {w W : World} {p q m : Tri} {cs : Array Value} (h : DkSt w W p q m cs) (i : Nat) (v : Value) : DkSt w (W.setCell ⟨w.heap.size + 1 + 1, i, none⟩ v) p q m (cs.setIfInBounds i v) := by
  have hl := h.lt
  have hg := grown_setCell W ⟨w.heap.size + 1 + 1, i, none⟩ v
  exact ⟨h.bel.setCell (p := ⟨w.heap.size + 1 + 1, i, none⟩) (by show w.heap.size ≤ w.heap.size + 1 + 1; omega) v, Nat.le_trans h.lt hg.size, h.pa.grown (by omega) hg (by show w.heap.size ≠ w.heap.size + 1 + 1; omega), h.qa.grown (by omega) hg (by show w.heap.size ≠ w.heap.size + 1 + 1; omega), h.ma.grown (by omega) hg (by show w.heap.size ≠ w.heap.size + 1 + 1; omega), h.res.grown hg (by show some (w.heap.size + 1) ≠ some (w.heap.size + 1 + 1); simp), h.box.set i v⟩

theorem OwnF.set3 {W : World} {B b i j k : Nat} {v : Value} {bs : List Nat} (h : OwnF W B v bs) (hb : b < B) (x y z : Value) : OwnF (((W.setCell ⟨b, i, none⟩ x).setCell ⟨b, j, none⟩ y).setCell ⟨b, k, none⟩ z) B v bs :=
  ((h.set (a := ⟨b, i, none⟩) hb x).set (a := ⟨b, j, none⟩) hb y).set (a := ⟨b, k, none⟩) hb z

theorem below_set9 {B b : Nat} {w W : World} (h : Below B w W) (hb : B ≤ b) (x0 x1 x2 x3 x4 x5 x6 x7 x8 : Value) : Below B w (((((((((W.setCell ⟨b, 0, none⟩ x0).setCell ⟨b, 1, none⟩ x1).setCell ⟨b, 2, none⟩ x2).setCell ⟨b, 3, none⟩ x3).setCell ⟨b, 4, none⟩ x4).setCell ⟨b, 5, none⟩ x5).setCell ⟨b, 6, none⟩ x6).setCell ⟨b, 7, none⟩ x7).setCell ⟨b, 8, none⟩ x8) :=
  ((((((((h.setCell (p := ⟨b, 0, none⟩) hb _).setCell (p := ⟨b, 1, none⟩) hb _).setCell (p := ⟨b, 2, none⟩) hb _).setCell (p := ⟨b, 3, none⟩) hb _).setCell (p := ⟨b, 4, none⟩) hb _).setCell (p := ⟨b, 5, none⟩) hb _).setCell (p := ⟨b, 6, none⟩) hb _).setCell (p := ⟨b, 7, none⟩) hb _).setCell (p := ⟨b, 8, none⟩) hb _

set_option maxHeartbeats 4000000 in
theorem toDesk_far (w : World) (p q m : Tri) (xs ys zs : List Nat) (hp : SlF w (.slice p.s p.l p.c) xs) (hq : SlF w (.slice q.s q.l q.c) ys) (hm : SlF w (.slice m.s m.l m.c) zs) (lp : xs.length = p.l) (lq : ys.length = q.l) (lm : zs.length = m.l) (h1 : p.l ≤ 1048576) (h2 : q.l ≤ 1048576) (h3 : m.l ≤ 1048576) :
    Calls Try.prog 9 #[.agg (desk p q m)] w (MakesD3 w p q m xs ys zs) := by
  obtain ⟨W0, hW0⟩ : ∃ W, W = (((w.alloc (.cells (desk p q m) 28)).alloc (.cells #[.int .i64 0, .int .i64 0, .slice none 0 0, .int .i64 0, .int .i64 0, .slice none 0 0, .int .i64 0, .int .i64 0, .slice none 0 0] 37)).alloc (.cells #[.int .i64 0, .int .i64 0, .slice none 0 0, .int .i64 0, .int .i64 0, .slice none 0 0, .int .i64 0, .int .i64 0, .slice none 0 0] 37)) := ⟨_, rfl⟩
  obtain ⟨hb0, x0, x1, x2⟩ := three_boxes hW0
  have hs0 : W0.heap.size = w.heap.size + 1 + 1 + 1 := by rw [hW0]; simp
  have st0 : DkSt w W0 p q m #[.int .i64 0, .int .i64 0, .slice none 0 0, .int .i64 0, .int .i64 0, .slice none 0 0, .int .i64 0, .int .i64 0, .slice none 0 0] := ⟨hb0, by omega, ⟨x0.cell 0, x0.cell 1, x0.cell 2⟩, ⟨x0.cell 3, x0.cell 4, x0.cell 5⟩, ⟨x0.cell 6, x0.cell 7, x0.cell 8⟩, x1, x2⟩
  have K1 := Lib.hid (fun W (hb : Below w.heap.size w W) => toP_any W p.a p.b p.s p.l p.c xs (hp.below hb) lp h1)
  have K2 := Lib.hid (fun W (hb : Below w.heap.size w W) => toP_any W q.a q.b q.s q.l q.c ys (hq.below hb) lq h2)
  have K3 := Lib.hid (fun W (hb : Below w.heap.size w W) => toM_any W m.a m.b m.s m.l m.c zs (hm.below hb) lm h3)
  have ST0 := Lib.hid st0
  have HS0 := Lib.hid hs0
  have HW0 := Lib.hid hW0
  unfold MakesP2 at K1 K2 K3
  rw [lp] at K1
  rw [lq] at K2
  rw [lm] at K3
  clear hW0 hb0 x0 x1 x2 hp hq hm st0 h1 h2 h3 lp lq lm hs0
  unfold desk at *
  go_enter Try.func9, Try.ntmps9
  go_wp2_with fail
  rw [← HW0.out]
  refine (K1.out _ ST0.out.bel).mono ?_
  rintro e w1 ⟨g1, rfl, ho1, hb1⟩
  have st1 := ST0.out.below hb1
  have s0 : w1.cell? ⟨w.heap.size + 1 + 1, 0, none⟩ = some (.int .i64 0) := st1.box.cell 0
  have s1 : w1.cell? ⟨w.heap.size + 1 + 1, 1, none⟩ = some (.int .i64 0) := st1.box.cell 1
  have s2 : w1.cell? ⟨w.heap.size + 1 + 1, 2, none⟩ = some (.slice none 0 0) := st1.box.cell 2
  have f0 := st1.box.free 0
  have f1 := st1.box.free 1
  have f2 := st1.box.free 2
  obtain ⟨W1, hW1⟩ : ∃ W, W = ((w1.setCell ⟨w.heap.size + 1 + 1, 0, none⟩ (.int .i64 p.a)).setCell ⟨w.heap.size + 1 + 1, 1, none⟩ (.int .i64 p.b)).setCell ⟨w.heap.size + 1 + 1, 2, none⟩ (.slice (some ⟨g1, 0, none⟩) p.l p.l) := ⟨_, rfl⟩
  have hbW : Below w.heap.size w w1 := st1.bel
  have hlt1 := st1.lt
  have stt := ((st1.set 0 (.int .i64 p.a)).set 1 (.int .i64 p.b)).set 2 (.slice (some ⟨g1, 0, none⟩) p.l p.l)
  rw [← hW1] at stt
  have eqs : (((#[.int .i64 0, .int .i64 0, .slice none 0 0, .int .i64 0, .int .i64 0, .slice none 0 0, .int .i64 0, .int .i64 0, .slice none 0 0] : Array Value).setIfInBounds 0 (.int .i64 p.a)).setIfInBounds 1 (.int .i64 p.b)).setIfInBounds 2 (.slice (some ⟨g1, 0, none⟩) p.l p.l) = #[.int .i64 p.a, .int .i64 p.b, .slice (some ⟨g1, 0, none⟩) p.l p.l, .int .i64 0, .int .i64 0, .slice none 0 0, .int .i64 0, .int .i64 0, .slice none 0 0] := by simp
  rw [eqs] at stt
  clear eqs
  have ho1' : OwnF W1 (w.heap.size + 1 + 1 + 1) (.slice (some ⟨g1, 0, none⟩) p.l p.l) xs := by
    rw [hW1]; exact (ho1.mono (by have := ST0.out.lt; omega)).set3 (by omega) _ _ _
  have ST1 := Lib.hid stt
  have HW1 := Lib.hid hW1
  have HO1 := Lib.hid ho1'
  obtain ⟨n0, n1, n2⟩ := stt.qa
  have hl1 := stt.lt
  clear hW1 stt st1 hb1 ho1 ho1' hbW
  go_upto_region 3 with fail
  rw [← HW1.out]
  clear s0 s1 s2 f0 f1 f2 hlt1
  go_wp2_with fail
  clear n0 n1 n2
  refine (K2.out _ ST1.out.bel).mono ?_
  rintro e w2 ⟨g2, rfl, ho2, hb2⟩
  have D12 := Lib.hid (show g1 < g2 by have a := (HO1.out.lt (k := g1) rfl).2; have b := (ho2.lt (k := g2) rfl).1; omega)
  have st2 := ST1.out.below hb2
  have s0 : w2.cell? ⟨w.heap.size + 1 + 1, 3, none⟩ = some (.int .i64 0) := st2.box.cell 3
  have s1 : w2.cell? ⟨w.heap.size + 1 + 1, 4, none⟩ = some (.int .i64 0) := st2.box.cell 4
  have s2 : w2.cell? ⟨w.heap.size + 1 + 1, 5, none⟩ = some (.slice none 0 0) := st2.box.cell 5
  have f0 := st2.box.free 3
  have f1 := st2.box.free 4
  have f2 := st2.box.free 5
  obtain ⟨W2, hW2⟩ : ∃ W, W = ((w2.setCell ⟨w.heap.size + 1 + 1, 3, none⟩ (.int .i64 q.a)).setCell ⟨w.heap.size + 1 + 1, 4, none⟩ (.int .i64 q.b)).setCell ⟨w.heap.size + 1 + 1, 5, none⟩ (.slice (some ⟨g2, 0, none⟩) q.l q.l) := ⟨_, rfl⟩
  have hbW : Below w.heap.size w w2 := st2.bel
  have hlt2 := st2.lt
  have stt := ((st2.set 3 (.int .i64 q.a)).set 4 (.int .i64 q.b)).set 5 (.slice (some ⟨g2, 0, none⟩) q.l q.l)
  rw [← hW2] at stt
  have eqs : (((#[.int .i64 p.a, .int .i64 p.b, .slice (some ⟨g1, 0, none⟩) p.l p.l, .int .i64 0, .int .i64 0, .slice none 0 0, .int .i64 0, .int .i64 0, .slice none 0 0] : Array Value).setIfInBounds 3 (.int .i64 q.a)).setIfInBounds 4 (.int .i64 q.b)).setIfInBounds 5 (.slice (some ⟨g2, 0, none⟩) q.l q.l) = #[.int .i64 p.a, .int .i64 p.b, .slice (some ⟨g1, 0, none⟩) p.l p.l, .int .i64 q.a, .int .i64 q.b, .slice (some ⟨g2, 0, none⟩) q.l q.l, .int .i64 0, .int .i64 0, .slice none 0 0] := by simp
  rw [eqs] at stt
  clear eqs
  have ho2' : OwnF W2 (w.heap.size + 1 + 1 + 1) (.slice (some ⟨g2, 0, none⟩) q.l q.l) ys := by
    rw [hW2]; exact (ho2.mono (by have := ST1.out.lt; omega)).set3 (by omega) _ _ _
  have ho1_2 : OwnF W2 (w.heap.size + 1 + 1 + 1) (.slice (some ⟨g1, 0, none⟩) p.l p.l) xs := by
    rw [hW2]; exact (HO1.out.below hb2).set3 (by omega) _ _ _
  have ST2 := Lib.hid stt
  have HW2 := Lib.hid hW2
  clear HO1
  have HO1 := Lib.hid ho1_2
  have HO2 := Lib.hid ho2'
  obtain ⟨n0, n1, n2⟩ := stt.ma
  have hl2 := stt.lt
  clear hW2 stt st2 hb2 ho2 ho2' hbW ho1_2
  go_upto_region 4 with fail
  rw [← HW2.out]
  clear s0 s1 s2 f0 f1 f2 hlt2
  go_wp2_with fail
  clear n0 n1 n2
  refine (K3.out _ ST2.out.bel).mono ?_
  rintro e w3 ⟨g3, rfl, ho3, hb3⟩
  have D23 := Lib.hid (show g2 < g3 by have a := (HO2.out.lt (k := g2) rfl).2; have b := (ho3.lt (k := g3) rfl).1; omega)
  have st3 := ST2.out.below hb3
  have s0 : w3.cell? ⟨w.heap.size + 1 + 1, 6, none⟩ = some (.int .i64 0) := st3.box.cell 6
  have s1 : w3.cell? ⟨w.heap.size + 1 + 1, 7, none⟩ = some (.int .i64 0) := st3.box.cell 7
  have s2 : w3.cell? ⟨w.heap.size + 1 + 1, 8, none⟩ = some (.slice none 0 0) := st3.box.cell 8
  have f0 := st3.box.free 6
  have f1 := st3.box.free 7
  have f2 := st3.box.free 8
  obtain ⟨W3, hW3⟩ : ∃ W, W = ((w3.setCell ⟨w.heap.size + 1 + 1, 6, none⟩ (.int .i64 m.a)).setCell ⟨w.heap.size + 1 + 1, 7, none⟩ (.int .i64 m.b)).setCell ⟨w.heap.size + 1 + 1, 8, none⟩ (.slice (some ⟨g3, 0, none⟩) m.l m.l) := ⟨_, rfl⟩
  have hbW : Below w.heap.size w w3 := st3.bel
  have hlt3 := st3.lt
  have stt := ((st3.set 6 (.int .i64 m.a)).set 7 (.int .i64 m.b)).set 8 (.slice (some ⟨g3, 0, none⟩) m.l m.l)
  rw [← hW3] at stt
  have eqs : (((#[.int .i64 p.a, .int .i64 p.b, .slice (some ⟨g1, 0, none⟩) p.l p.l, .int .i64 q.a, .int .i64 q.b, .slice (some ⟨g2, 0, none⟩) q.l q.l, .int .i64 0, .int .i64 0, .slice none 0 0] : Array Value).setIfInBounds 6 (.int .i64 m.a)).setIfInBounds 7 (.int .i64 m.b)).setIfInBounds 8 (.slice (some ⟨g3, 0, none⟩) m.l m.l) = #[.int .i64 p.a, .int .i64 p.b, .slice (some ⟨g1, 0, none⟩) p.l p.l, .int .i64 q.a, .int .i64 q.b, .slice (some ⟨g2, 0, none⟩) q.l q.l, .int .i64 m.a, .int .i64 m.b, .slice (some ⟨g3, 0, none⟩) m.l m.l] := by simp
  rw [eqs] at stt
  clear eqs
  have ho3' : OwnF W3 (w.heap.size + 1 + 1 + 1) (.slice (some ⟨g3, 0, none⟩) m.l m.l) zs := by
    rw [hW3]; exact (ho3.mono (by have := ST2.out.lt; omega)).set3 (by omega) _ _ _
  have ho1_3 : OwnF W3 (w.heap.size + 1 + 1 + 1) (.slice (some ⟨g1, 0, none⟩) p.l p.l) xs := by
    rw [hW3]; exact (HO1.out.below hb3).set3 (by omega) _ _ _
  have ho2_3 : OwnF W3 (w.heap.size + 1 + 1 + 1) (.slice (some ⟨g2, 0, none⟩) q.l q.l) ys := by
    rw [hW3]; exact (HO2.out.below hb3).set3 (by omega) _ _ _
  have ST3 := Lib.hid stt
  have HW3 := Lib.hid hW3
  clear HO1
  have HO1 := Lib.hid ho1_3
  clear HO2
  have HO2 := Lib.hid ho2_3
  have HO3 := Lib.hid ho3'
  obtain ⟨r0, r1, r2, r3, r4, r5, r6, r7, r8⟩ : W3.cell? ⟨w.heap.size + 1, 0, none⟩ = some (.int .i64 0) ∧ W3.cell? ⟨w.heap.size + 1, 1, none⟩ = some (.int .i64 0) ∧ W3.cell? ⟨w.heap.size + 1, 2, none⟩ = some (.slice none 0 0) ∧ W3.cell? ⟨w.heap.size + 1, 3, none⟩ = some (.int .i64 0) ∧ W3.cell? ⟨w.heap.size + 1, 4, none⟩ = some (.int .i64 0) ∧ W3.cell? ⟨w.heap.size + 1, 5, none⟩ = some (.slice none 0 0) ∧ W3.cell? ⟨w.heap.size + 1, 6, none⟩ = some (.int .i64 0) ∧ W3.cell? ⟨w.heap.size + 1, 7, none⟩ = some (.int .i64 0) ∧ W3.cell? ⟨w.heap.size + 1, 8, none⟩ = some (.slice none 0 0) :=
    ⟨stt.res.cell 0, stt.res.cell 1, stt.res.cell 2, stt.res.cell 3, stt.res.cell 4, stt.res.cell 5, stt.res.cell 6, stt.res.cell 7, stt.res.cell 8⟩
  obtain ⟨t0, t1, t2, t3, t4, t5, t6, t7, t8⟩ : W3.cell? ⟨w.heap.size + 1 + 1, 0, none⟩ = some (.int .i64 p.a) ∧ W3.cell? ⟨w.heap.size + 1 + 1, 1, none⟩ = some (.int .i64 p.b) ∧ W3.cell? ⟨w.heap.size + 1 + 1, 2, none⟩ = some (.slice (some ⟨g1, 0, none⟩) p.l p.l) ∧ W3.cell? ⟨w.heap.size + 1 + 1, 3, none⟩ = some (.int .i64 q.a) ∧ W3.cell? ⟨w.heap.size + 1 + 1, 4, none⟩ = some (.int .i64 q.b) ∧ W3.cell? ⟨w.heap.size + 1 + 1, 5, none⟩ = some (.slice (some ⟨g2, 0, none⟩) q.l q.l) ∧ W3.cell? ⟨w.heap.size + 1 + 1, 6, none⟩ = some (.int .i64 m.a) ∧ W3.cell? ⟨w.heap.size + 1 + 1, 7, none⟩ = some (.int .i64 m.b) ∧ W3.cell? ⟨w.heap.size + 1 + 1, 8, none⟩ = some (.slice (some ⟨g3, 0, none⟩) m.l m.l) :=
    ⟨stt.box.cell 0, stt.box.cell 1, stt.box.cell 2, stt.box.cell 3, stt.box.cell 4, stt.box.cell 5, stt.box.cell 6, stt.box.cell 7, stt.box.cell 8⟩
  have v0 := stt.res.free 0
  have v1 := stt.res.free 1
  have v2 := stt.res.free 2
  have v3 := stt.res.free 3
  have v4 := stt.res.free 4
  have v5 := stt.res.free 5
  have v6 := stt.res.free 6
  have v7 := stt.res.free 7
  have v8 := stt.res.free 8
  have hl3 := stt.lt
  clear hW3 stt st3 hb3 ho3 ho3' hbW ho1_3 ho2_3
  go_upto_region 5 with fail
  rw [← HW3.out]
  clear s0 s1 s2 f0 f1 f2 hlt3
  go_wp2_with fail
  refine bodyPost_ret (v := .agg #[.int .i64 p.a, .int .i64 p.b, .slice (some ⟨g1, 0, none⟩) p.l p.l, .int .i64 q.a, .int .i64 q.b, .slice (some ⟨g2, 0, none⟩) q.l q.l, .int .i64 m.a, .int .i64 m.b, .slice (some ⟨g3, 0, none⟩) m.l m.l]) (by simp [results, Try.results9, go_sem, r0, r1, r2, r3, r4, r5, r6, r7, r8, hl3]) rfl ?_
  refine ⟨g1, g2, g3, rfl, ?_, ?_, ?_, D12.out, D23.out, ?_⟩
  · exact (((HO1.out.set3 (b := w.heap.size + 1) (by omega) _ _ _).set3 (b := w.heap.size + 1) (by omega) _ _ _).set3 (b := w.heap.size + 1) (by omega) _ _ _).mono (by omega)
  · exact (((HO2.out.set3 (b := w.heap.size + 1) (by omega) _ _ _).set3 (b := w.heap.size + 1) (by omega) _ _ _).set3 (b := w.heap.size + 1) (by omega) _ _ _).mono (by omega)
  · exact (((HO3.out.set3 (b := w.heap.size + 1) (by omega) _ _ _).set3 (b := w.heap.size + 1) (by omega) _ _ _).set3 (b := w.heap.size + 1) (by omega) _ _ _).mono (by omega)
  · exact below_set9 ST3.out.bel (b := w.heap.size + 1) (by omega) _ _ _ _ _ _ _ _ _

theorem toDesk_any (w : World) (p q m : Tri) (xs ys zs : List Nat) (hp : SlF w (.slice p.s p.l p.c) xs) (hq : SlF w (.slice q.s q.l q.c) ys) (hm : SlF w (.slice m.s m.l m.c) zs) (lp : xs.length = p.l) (lq : ys.length = q.l) (lm : zs.length = m.l) (h1 : p.l ≤ 1048576) (h2 : q.l ≤ 1048576) (h3 : m.l ≤ 1048576) :
    Calls Try.prog 9 #[.agg (desk p q m)] w (MakesD2 w p q m xs ys zs) :=
  (toDesk_far w p q m xs ys zs hp hq hm lp lq lm h1 h2 h3).mono fun e w' ⟨g1, g2, g3, he, a, b, c, _, _, hb⟩ => ⟨g1, g2, g3, he, a, b, c, hb⟩

end Go.Proofs.Ytabbjilgpfnacaa
