/- The law FnVectors: its walk. -/
import Derived.Test.YtjibghjongplpaaDoorDq
import Derived.Test.YtjibghjongplpaaDoorDr
import Derived.Test.YtjibghjongplpaaDoorLaw
import Derived.Deep.Cut
namespace Go.Proofs.YtjibghjongplpaaDoor
open Go.RowKit Ieee
set_option maxRecDepth 100000
set_option linter.unusedVariables false
set_option linter.unusedSimpArgs false

theorem cross_neg (p q : Z3) : (q.cross p).mul (-1) = p.cross q := by
  unfold Z3.cross Z3.mul
  simp only [Z3.mk.injEq]
  refine ⟨?_, ?_, ?_⟩ <;> simp only [Int.mul_neg, Int.mul_one, Int.neg_sub]
  · rw [Int.mul_comm q.z, Int.mul_comm q.y]
  · rw [Int.mul_comm q.x, Int.mul_comm q.z]
  · rw [Int.mul_comm q.y, Int.mul_comm q.x]
theorem cross_dot (p q : Z3) : (p.cross q).dot p = 0 ∧ (p.cross q).dot q = 0 := by
  unfold Z3.cross Z3.dot
  simp only
  constructor
  · simp only [Int.sub_mul]
    rw [show p.y * q.z * p.x = p.x * q.z * p.y by rw [Int.mul_right_comm, Int.mul_comm p.y, Int.mul_right_comm], show p.z * q.y * p.x = p.x * q.y * p.z by rw [Int.mul_right_comm, Int.mul_comm p.z, Int.mul_right_comm], show p.z * q.x * p.y = p.y * q.x * p.z by rw [Int.mul_right_comm, Int.mul_comm p.z, Int.mul_right_comm]]
    omega
  · simp only [Int.sub_mul]
    rw [show p.z * q.x * q.y = p.z * q.y * q.x by rw [Int.mul_right_comm], show p.x * q.y * q.z = p.x * q.z * q.y by rw [Int.mul_right_comm], show p.y * q.z * q.x = p.y * q.x * q.z by rw [Int.mul_right_comm]]
    omega
theorem back_eq (p q : Z3) : q.add (p.sub q) = p := by
  unfold Z3.add Z3.sub
  cases p
  simp only [Z3.mk.injEq]
  omega
theorem twice_eq (p : Z3) : p.add p = p.mul 2 := by
  unfold Z3.add Z3.mul
  simp only [Z3.mk.injEq]
  omega
theorem between0 (p q : Z3) : p.add ((q.sub p).mul 0) = p := by
  unfold Z3.add Z3.mul
  cases p
  simp
theorem between1 (p q : Z3) : p.add ((q.sub p).mul 1) = q := by
  unfold Z3.add Z3.mul Z3.sub
  cases q
  simp only [Z3.mk.injEq]
  omega
theorem Z3.le_sub {p q : Z3} {m n : Nat} (hp : p.le m) (hq : q.le n) : (p.sub q).le (m + n) := ⟨by have := hp.1; have := hq.1; unfold Z3.sub; simp only; omega, by have := hp.2.1; have := hq.2.1; unfold Z3.sub; simp only; omega, by have := hp.2.2; have := hq.2.2; unfold Z3.sub; simp only; omega⟩
theorem Z3.le_cross {p q : Z3} (hp : p.le 50) (hq : q.le 50) : (p.cross q).le 5000 := by
  have h : ∀ x y z u : Int, x.natAbs ≤ 50 → y.natAbs ≤ 50 → z.natAbs ≤ 50 → u.natAbs ≤ 50 → (x * y - z * u).natAbs ≤ 5000 := by
    intro x y z u h1 h2 h3 h4
    have a := abs_mul_le h1 h2
    have b := abs_mul_le h3 h4
    generalize x * y = s at *
    generalize z * u = t at *
    omega
  exact ⟨h _ _ _ _ hp.2.1 hq.2.2 hp.2.2 hq.2.1, h _ _ _ _ hp.2.2 hq.1 hp.1 hq.2.2, h _ _ _ _ hp.1 hq.2.1 hp.2.1 hq.1⟩
theorem dot_nonneg (p : Z3) : 0 ≤ p.dot p := by
  have h : ∀ x : Int, 0 ≤ x * x := fun x => by
    rcases Int.lt_or_le x 0 with g | g
    · exact Int.le_of_lt (Int.mul_pos_of_neg_of_neg g g)
    · exact Int.mul_nonneg g g
  unfold Z3.dot
  have := h p.x
  have := h p.y
  have := h p.z
  omega
theorem dot_le {p : Z3} (hp : p.le 50) : p.dot p ≤ 7500 := by
  have a := abs_mul_le hp.1 hp.1
  have b := abs_mul_le hp.2.1 hp.2.1
  have c := abs_mul_le hp.2.2 hp.2.2
  unfold Z3.dot
  omega
theorem IsV.of {x y z : Nat} {p : Z3} (h1 : IsW x p.x) (h2 : IsW y p.y) (h3 : IsW z p.z) : IsV (vecV x y z) p := ⟨x, y, z, rfl, h1, h2, h3⟩
theorem isW2 : IsW 1073741824 2 := by have := isW_fq (k := 2) (by decide); rwa [show fq 0 2 = 1073741824 by decide +kernel] at this
theorem isWm : IsW 3212836864 (-1) := by have := isW_fq (k := -1) (by decide); rwa [show fq 0 (-1) = 3212836864 by decide +kernel] at this
theorem isW0 : IsW 0 0 := by have := isW_fq (k := 0) (by decide); rwa [show fq 0 0 = 0 by decide +kernel] at this
theorem isW1 : IsW 1065353216 1 := by have := isW_fq (k := 1) (by decide); rwa [show fq 0 1 = 1065353216 by decide +kernel] at this

/-- A contract told from a world that lies further back. -/
theorem callB {W6 W : World} {f : Nat} {args : Array Value} {Q : Ending → Prop} (h : Calls Tryd.prog f args W fun e w' => Q e ∧ Below W.heap.size W w') (hB : Below W6.heap.size W6 W) :
    Calls Tryd.prog f args W fun e w' => Q e ∧ Below W6.heap.size W6 w' := h.mono fun e w' ⟨q, hb⟩ => ⟨q, hB.trans (hb.mono hB.size)⟩
theorem callS {W6 W : World} {f : Nat} {args : Array Value} {Q : Ending → Prop} (h : Calls Tryd.prog f args W fun e w' => Q e ∧ W = w') (hB : Below W6.heap.size W6 W) :
    Calls Tryd.prog f args W fun e w' => Q e ∧ Below W6.heap.size W6 w' := h.mono fun e w' ⟨q, hb⟩ => ⟨q, hb ▸ hB⟩

/-- Vectors in boxes. -/
def Bxs (V : World) (l : List (Nat × Nat × Nat × Nat)) : Prop := ∀ q ∈ l, BoxN V q.1 #[.float .f32 q.2.1, .float .f32 q.2.2.1, .float .f32 q.2.2.2] 39
theorem Bxs.below {V W : World} {l : List (Nat × Nat × Nat × Nat)} (h : Bxs V l) (hb : Below V.heap.size V W) : Bxs W l := fun q hq => (h q hq).below hb
theorem Bxs.cons {V : World} {l : List (Nat × Nat × Nat × Nat)} {b x y z : Nat} (h : Bxs V l) (hx : BoxN V b #[.float .f32 x, .float .f32 y, .float .f32 z] 39) : Bxs V ((b, x, y, z) :: l) := by
  intro q hq
  rcases List.mem_cons.1 hq with rfl | hq
  · exact hx
  · exact h q hq
theorem Bxs.at {V W : World} {l : List (Nat × Nat × Nat × Nat)} (h : Bxs V l) (hb : Below V.heap.size V W) {b x y z : Nat} (hm : (b, x, y, z) ∈ l) : W.cell? ⟨b, 0, none⟩ = some (.float .f32 x) ∧ W.cell? ⟨b, 1, none⟩ = some (.float .f32 y) ∧ W.cell? ⟨b, 2, none⟩ = some (.float .f32 z) :=
  three_cells (h _ hm) hb

set_option maxHeartbeats 8000000 in
theorem fnVectors_walk (w : World) (a0 a1 : Option Addr) (l0 c0 l1 c1 : Nat) (hx : (l0 ≤ 1048576 ∧ l1 ≤ 1048576) → BytesIn w a0 l0 ∧ BytesIn w a1 l1) (m0 : l0 ≤ 9223372036854775807) (m1 : l1 ≤ 9223372036854775807) (m : Int) (hm : w.cell? ⟨1, 0, none⟩ = some (.int .i64 m)) :
    Calls Tryd.prog 4 #[.slice a0 l0 c0, .slice a1 l1 c1] w fun e w' => e = .returned (.bool true) ∧ Below w.heap.size w w' := by
  by_cases hl : l0 ≤ 1048576 ∧ l1 ≤ 1048576
  case neg =>
    clear hx hm
    go_enter Tryd.func4, Tryd.ntmps4
    go_wp2_with fail
    refine (b10Long_yes _ _ _ _ _ _ _ m0 m1 hl).mono ?_
    rintro e w' ⟨rfl, rfl⟩
    go_wp2_with fail
    go_ret
    exact ⟨rfl, Below.refl _ _⟩
  obtain ⟨hb0, hb1⟩ := hx hl
  obtain ⟨h0, h1⟩ := hl
  have hml := World.block_lt_of_cell? _ _ hm
  have HM := Lib.hid (fun W (hb : Below w.heap.size w W) => (show W.cell? ⟨1, 0, none⟩ = some (.int .i64 m) from (hb.cell (p := ⟨1, 0, none⟩) hml).trans hm))
  have HB0 := Lib.hid (fun W (hb : Below w.heap.size w W) => hb0.below hb)
  have HB1 := Lib.hid (fun W (hb : Below w.heap.size w W) => hb1.below hb)
  clear hx hm hb0 hb1 hml m0 m1
  go_enter Tryd.func4, Tryd.ntmps4
  go_wp2_with fail
  refine (b10Long_no _ _ _ _ _ _ _ h0 h1).mono ?_
  rintro e w' ⟨rfl, rfl⟩
  have KA := Lib.hid (b10Vector_any w a0 l0 c0 (HB0.out w (Below.refl _ _)))
  go_wp2_with fail
  refine KA.out.mono ?_
  rintro e w5 ⟨v, p, rfl, ⟨p1, p2, p3, rfl, i1, i2, i3⟩, hp, hb5⟩
  have IA := Lib.hid (And.intro (IsV.of i1 i2 i3) hp)
  clear i1 i2 i3 hp KA
  obtain ⟨b5, hb5b⟩ : ∃ b, w5.heap.size = b := ⟨_, rfl⟩
  obtain ⟨V5, hV5⟩ : ∃ W, W = w5.alloc (.cells #[.float .f32 p1, .float .f32 p2, .float .f32 p3] 39) := ⟨_, rfl⟩
  have hB5 : Below w.heap.size w V5 := by rw [hV5]; exact (hb5).trans (((Below.refl _ _).alloc (Nat.le_refl _) _).mono (hb5).size)
  have hC5 : Below w5.heap.size w5 V5 := by rw [hV5]; exact (Below.refl _ _).alloc (Nat.le_refl _) _
  have hX5 : BoxN V5 b5 #[.float .f32 p1, .float .f32 p2, .float .f32 p3] 39 := by rw [hV5, ← hb5b]; exact BoxN.last w5 _ _
  have T5 := Lib.hid (And.intro hB5 (show Bxs V5 [(b5, p1, p2, p3)] from fun q hq => by rw [List.mem_singleton.1 hq]; exact hX5))
  have HV5 := Lib.hid hV5
  have HBB5 := Lib.hid hb5b
  clear hV5 hb5b hB5 hC5 hX5
  try unfold vecV vecC
  go_upto_region 4 with fail
  rw [← HV5.out, HBB5.out]
  clear HV5 HBB5
  have KB := Lib.hid (b10Vector_any V5 a1 l1 c1 (HB1.out V5 T5.out.1))
  clear hb5
  go_wp2_with fail
  refine KB.out.mono ?_
  rintro e w6 ⟨v, q, rfl, ⟨q1, q2, q3, rfl, i1, i2, i3⟩, hq, hb6⟩
  have IB := Lib.hid (And.intro (IsV.of i1 i2 i3) hq)
  clear i1 i2 i3 hq KB
  have hb6' := T5.out.1.trans (hb6.mono T5.out.1.size)
  obtain ⟨b6, hb6b⟩ : ∃ b, w6.heap.size = b := ⟨_, rfl⟩
  obtain ⟨V6, hV6⟩ : ∃ W, W = w6.alloc (.cells #[.float .f32 q1, .float .f32 q2, .float .f32 q3] 39) := ⟨_, rfl⟩
  have hB6 : Below w.heap.size w V6 := by rw [hV6]; exact (hb6').trans (((Below.refl _ _).alloc (Nat.le_refl _) _).mono (hb6').size)
  have hC6 : Below w6.heap.size w6 V6 := by rw [hV6]; exact (Below.refl _ _).alloc (Nat.le_refl _) _
  have hX6 : BoxN V6 b6 #[.float .f32 q1, .float .f32 q2, .float .f32 q3] 39 := by rw [hV6, ← hb6b]; exact BoxN.last w6 _ _
  have T6 := Lib.hid (And.intro hB6 (((T5.out.2.below hb6).below hC6).cons hX6))
  have HV6 := Lib.hid hV6
  have HBB6 := Lib.hid hb6b
  clear hV6 hb6b hB6 hC6 hX6
  try unfold vecV vecC
  go_upto_region 5 with fail
  rw [← HV6.out, HBB6.out]
  clear HV6 HBB6
  have KC := Lib.hid (crossV V6 IA.out.1 IB.out.1 IA.out.2 IB.out.2 (by omega))
  unfold vecV vecC at KC
  clear hb6 hb6' T5
  obtain ⟨k50, k51, k52⟩ := T6.out.2.at (W := V6) (Below.refl _ _) (b := b5) (x := p1) (y := p2) (z := p3) (by simp)
  obtain ⟨k60, k61, k62⟩ := T6.out.2.at (W := V6) (Below.refl _ _) (b := b6) (x := q1) (y := q2) (z := q3) (by simp)
  go_wp2_with fail
  refine KC.out.mono ?_
  rintro e w7 ⟨⟨v, rfl, ⟨c1_, c2_, c3_, rfl, i1, i2, i3⟩⟩, hb7⟩
  have IC := Lib.hid (And.intro (IsV.of i1 i2 i3) (Z3.le_cross IA.out.2 IB.out.2))
  clear i1 i2 i3 KC k50 k51 k52 k60 k61 k62
  have hb7' := T6.out.1.trans (hb7.mono T6.out.1.size)
  obtain ⟨b7, hb7b⟩ : ∃ b, w7.heap.size = b := ⟨_, rfl⟩
  obtain ⟨V7, hV7⟩ : ∃ W, W = w7.alloc (.cells #[.float .f32 c1_, .float .f32 c2_, .float .f32 c3_] 39) := ⟨_, rfl⟩
  have hB7 : Below w.heap.size w V7 := by rw [hV7]; exact (hb7').trans (((Below.refl _ _).alloc (Nat.le_refl _) _).mono (hb7').size)
  have hC7 : Below w7.heap.size w7 V7 := by rw [hV7]; exact (Below.refl _ _).alloc (Nat.le_refl _) _
  have hX7 : BoxN V7 b7 #[.float .f32 c1_, .float .f32 c2_, .float .f32 c3_] 39 := by rw [hV7, ← hb7b]; exact BoxN.last w7 _ _
  have T7 := Lib.hid (And.intro hB7 (((T6.out.2.below hb7).below hC7).cons hX7))
  have HV7 := Lib.hid hV7
  have HBB7 := Lib.hid hb7b
  clear hV7 hb7b hB7 hC7 hX7
  try unfold vecV vecC
  go_upto_region 6 with fail
  rw [← HV7.out, HBB7.out]
  clear HV7 HBB7
  have KD := Lib.hid (crossV V7 IB.out.1 IA.out.1 IB.out.2 IA.out.2 (by omega))
  unfold vecV vecC at KD
  clear hb7 hb7' T6
  obtain ⟨k50, k51, k52⟩ := T7.out.2.at (W := V7) (Below.refl _ _) (b := b5) (x := p1) (y := p2) (z := p3) (by simp)
  obtain ⟨k60, k61, k62⟩ := T7.out.2.at (W := V7) (Below.refl _ _) (b := b6) (x := q1) (y := q2) (z := q3) (by simp)
  go_wp2_with fail
  refine KD.out.mono ?_
  rintro e w8 ⟨⟨v, rfl, ⟨d1_, d2_, d3_, rfl, i1, i2, i3⟩⟩, hb8⟩
  have ID := Lib.hid (And.intro (IsV.of i1 i2 i3) (Z3.le_cross IB.out.2 IA.out.2))
  clear i1 i2 i3 KD k50 k51 k52 k60 k61 k62
  have hb8' := T7.out.1.trans (hb8.mono T7.out.1.size)
  obtain ⟨b8, hb8b⟩ : ∃ b, w8.heap.size = b := ⟨_, rfl⟩
  obtain ⟨V8, hV8⟩ : ∃ W, W = w8.alloc (.cells #[.float .f32 d1_, .float .f32 d2_, .float .f32 d3_] 39) := ⟨_, rfl⟩
  have hB8 : Below w.heap.size w V8 := by rw [hV8]; exact (hb8').trans (((Below.refl _ _).alloc (Nat.le_refl _) _).mono (hb8').size)
  have hC8 : Below w8.heap.size w8 V8 := by rw [hV8]; exact (Below.refl _ _).alloc (Nat.le_refl _) _
  have hX8 : BoxN V8 b8 #[.float .f32 d1_, .float .f32 d2_, .float .f32 d3_] 39 := by rw [hV8, ← hb8b]; exact BoxN.last w8 _ _
  have T8 := Lib.hid (And.intro hB8 (((T7.out.2.below hb8).below hC8).cons hX8))
  have HV8 := Lib.hid hV8
  have HBB8 := Lib.hid hb8b
  clear hV8 hb8b hB8 hC8 hX8
  try unfold vecV vecC
  go_upto_region 7 with fail
  rw [← HV8.out, HBB8.out]
  clear HV8 HBB8
  clear hb8 hb8' T7
  have KL := Lib.hid (fun W => lessV W IA.out.1 IB.out.1 IA.out.2 IB.out.2 (by omega))
  have KP := Lib.hid (fun (x y z : Nat) (i1 : IsW x (p.sub q).x) (i2 : IsW y (p.sub q).y) (i3 : IsW z (p.sub q).z) W => addV W IB.out.1 (IsV.of i1 i2 i3) IB.out.2 (Z3.le_sub IA.out.2 IB.out.2) (by omega))
  rw [back_eq] at KP
  unfold vecV vecC at KL KP
  have SV := Lib.hid (fun W (hW : Below V8.heap.size V8 W) => (show (W.cell? ⟨b5, 0, none⟩ = some (.float .f32 p1) ∧ W.cell? ⟨b5, 1, none⟩ = some (.float .f32 p2) ∧ W.cell? ⟨b5, 2, none⟩ = some (.float .f32 p3) ∧ W.cell? ⟨b6, 0, none⟩ = some (.float .f32 q1) ∧ W.cell? ⟨b6, 1, none⟩ = some (.float .f32 q2) ∧ W.cell? ⟨b6, 2, none⟩ = some (.float .f32 q3)) from by
    obtain ⟨x0, x1, x2⟩ := T8.out.2.at hW (b := b5) (x := p1) (y := p2) (z := p3) (by simp)
    obtain ⟨y0, y1, y2⟩ := T8.out.2.at hW (b := b6) (x := q1) (y := q2) (z := q3) (by simp)
    exact ⟨x0, x1, x2, y0, y1, y2⟩))
  have hA1 : Below V8.heap.size V8 V8.drew := below_drewN (Below.refl _ _) 1
  have hX8 : BoxN (V8.alloc (.cells #[.float .f32 0, .float .f32 0, .float .f32 0] 39)).drew V8.heap.size #[.float .f32 0, .float .f32 0, .float .f32 0] 39 := (BoxN.last V8 _ _).drewN 1
  have hA2 : Below V8.heap.size V8 (V8.alloc (.cells #[.float .f32 0, .float .f32 0, .float .f32 0] 39)).drew := below_drewN (below_1v V8 _) 1
  go_cut [9] from 28 to 32 (fun v9 wx => ∃ b9 e1_ e2_ e3_ : Nat, v9 = .pointer (some ⟨b9, 0, none⟩) ∧ IsV (vecV e1_ e2_ e3_) p ∧ BoxN wx b9 #[.float .f32 e1_, .float .f32 e2_, .float .f32 e3_] 39 ∧ Below V8.heap.size V8 wx)
  case first =>
    go_region_held3 (fun W => (W.cell? ⟨b5, 0, none⟩ = some (.float .f32 p1) ∧ W.cell? ⟨b5, 1, none⟩ = some (.float .f32 p2) ∧ W.cell? ⟨b5, 2, none⟩ = some (.float .f32 p3) ∧ W.cell? ⟨b6, 0, none⟩ = some (.float .f32 q1) ∧ W.cell? ⟨b6, 1, none⟩ = some (.float .f32 q2) ∧ W.cell? ⟨b6, 2, none⟩ = some (.float .f32 q3)))
      (first | (with_reducible refine SV.out _ ?_; assumption) | exact SV.out _ (Below.refl _ _) | exact SV.out _ (hb2.alloc hb2.size _) | exact SV.out _ (hb1.alloc hb1.size _) | exact SV.out _ (below_set3v hb2 hb1.size _ _ _) | exact SV.out _ (below_set3v hb2 (Nat.le_refl _) _ _ _) | go_keep)
      (first
        | (go_at_call 17; (with_reducible refine (KL.out V8.drew).mono ?_); rintro e w1 ⟨⟨x1, rfl, r1, r2, r3, rfl, i1, i2, i3⟩, hr1⟩; unfold vecV vecC; have hb1 := hA1.trans (hr1.mono hA1.size))
        | (go_at_call 17; (with_reducible refine (KL.out (V8.alloc (.cells #[.float .f32 0, .float .f32 0, .float .f32 0] 39)).drew).mono ?_); rintro e w1 ⟨⟨x1, rfl, r1, r2, r3, rfl, i1, i2, i3⟩, hr1⟩; unfold vecV vecC; have hb1 := hA2.trans (hr1.mono hA2.size); have hbx1 := hX8.below hr1)
        | (go_at_call 16; (with_reducible refine (KP.out _ _ _ i1 i2 i3 (w1.alloc (.cells #[.float .f32 0, .float .f32 0, .float .f32 0] 39))).mono ?_); rintro e w2 ⟨⟨x2, rfl, e1_, e2_, e3_, rfl, j1, j2, j3⟩, hr2⟩; unfold vecV vecC; have hb2 := (hb1.alloc hb1.size _).trans (hr2.mono (hb1.alloc hb1.size _).size); have hbx2 := (BoxN.last w1 _ _).below hr2; obtain ⟨o0, o1, o2⟩ := three_cells hbx2 (Below.refl _ _); have f0 := hbx2.free 0; have f1 := hbx2.free 1; have f2 := hbx2.free 2; have f3 := hbx2.lt)
        | (go_at_call 16; (with_reducible refine (KP.out _ _ _ i1 i2 i3 w1).mono ?_); rintro e w2 ⟨⟨x2, rfl, e1_, e2_, e3_, rfl, j1, j2, j3⟩, hr2⟩; unfold vecV vecC; have hb2 := hb1.trans (hr2.mono hb1.size); have hbx2 := hbx1.below hr2; obtain ⟨o0, o1, o2⟩ := three_cells hbx2 (Below.refl _ _); have f0 := hbx2.free 0; have f1 := hbx2.free 1; have f2 := hbx2.free 2; have f3 := hbx2.lt)
        | (go_at_call 16; (with_reducible refine (KP.out _ _ _ i1 i2 i3 w1).mono ?_); rintro e w2 ⟨⟨x2, rfl, e1_, e2_, e3_, rfl, j1, j2, j3⟩, hr2⟩; unfold vecV vecC; have hb2 := hb1.trans (hr2.mono hb1.size)))
    all_goals
      go_wp2_with fail
      go_meet
      first
        | exact ⟨w2.heap.size, e1_, e2_, e3_, rfl, IsV.of j1 j2 j3, BoxN.last w2 _ _, hb2.alloc hb2.size _⟩
        | exact ⟨V8.heap.size, e1_, e2_, e3_, rfl, IsV.of j1 j2 j3, by simpa using ((hbx2.set 0 (.float .f32 e1_)).set 1 (.float .f32 e2_)).set 2 (.float .f32 e3_), below_set3v hb2 (Nat.le_refl _) _ _ _⟩
        | exact ⟨w1.heap.size, e1_, e2_, e3_, rfl, IsV.of j1 j2 j3, by simpa using ((hbx2.set 0 (.float .f32 e1_)).set 1 (.float .f32 e2_)).set 2 (.float .f32 e3_), below_set3v hb2 hb1.size _ _ _⟩
  case rest =>
    obtain ⟨b9, e1_, e2_, e3_, rfl, ie, hx9, hb9⟩ := hcut
    have IE := Lib.hid (And.intro ie IA.out.2)
    have T9 := Lib.hid (And.intro (T8.out.1.trans (hb9.mono T8.out.1.size)) ((T8.out.2.below hb9).cons hx9))
    clear ie hx9 hb9 T8 SV hA1 hA2 hX8 KL KP
    have KS := Lib.hid (scaleV wc IA.out.1 isW2 IA.out.2 (n := 2) (by decide) (by omega))
    unfold vecV vecC at KS
    obtain ⟨k50, k51, k52⟩ := T9.out.2.at (W := wc) (Below.refl _ _) (b := b5) (x := p1) (y := p2) (z := p3) (by simp)
    go_wp2_with fail
    refine KS.out.mono ?_
    rintro e w10 ⟨⟨v, rfl, ⟨t1_, t2_, t3_, rfl, i1, i2, i3⟩⟩, hb10⟩
    have IT := Lib.hid (IsV.of i1 i2 i3)
    clear i1 i2 i3 KS k50 k51 k52
    have hb10' := T9.out.1.trans (hb10.mono T9.out.1.size)
    obtain ⟨b10, hb10b⟩ : ∃ b, w10.heap.size = b := ⟨_, rfl⟩
    obtain ⟨V10, hV10⟩ : ∃ W, W = w10.alloc (.cells #[.float .f32 t1_, .float .f32 t2_, .float .f32 t3_] 39) := ⟨_, rfl⟩
    have hB10 : Below w.heap.size w V10 := by rw [hV10]; exact (hb10').trans (((Below.refl _ _).alloc (Nat.le_refl _) _).mono (hb10').size)
    have hC10 : Below w10.heap.size w10 V10 := by rw [hV10]; exact (Below.refl _ _).alloc (Nat.le_refl _) _
    have hX10 : BoxN V10 b10 #[.float .f32 t1_, .float .f32 t2_, .float .f32 t3_] 39 := by rw [hV10, ← hb10b]; exact BoxN.last w10 _ _
    have T10 := Lib.hid (And.intro hB10 (((T9.out.2.below hb10).below hC10).cons hX10))
    have HV10 := Lib.hid hV10
    have HBB10 := Lib.hid hb10b
    clear hV10 hb10b hB10 hC10 hX10
    try unfold vecV vecC
    go_upto_region 9 with fail
    rw [← HV10.out, HBB10.out]
    clear HV10 HBB10
    clear hb10 hb10' T9
    obtain ⟨rq, irq, KQ, KI⟩ := square_inner IA.out.1 IA.out.2 (by omega)
    obtain ⟨lq, hlq⟩ := rootW_of irq (dot_nonneg p) (Int.le_trans (dot_le IA.out.2) (by omega))
    have hnq := irq.nan
    have E1 := Lib.hid (fun W (hB : Below V10.heap.size V10 W) => callB (vEqual_yes W IE.out.1 IA.out.1) hB)
    have I1 := Lib.hid (fun W (hB : Below V10.heap.size V10 W) => callB (innerV W IC.out.1 IA.out.1 IC.out.2 IA.out.2 (by omega)) hB)
    have I2 := Lib.hid (fun W (hB : Below V10.heap.size V10 W) => callB (innerV W IC.out.1 IB.out.1 IC.out.2 IB.out.2 (by omega)) hB)
    have S1 := Lib.hid (fun W (hB : Below V10.heap.size V10 W) => callB (scaleV W ID.out.1 isWm ID.out.2 (n := 1) (by decide) (by omega)) hB)
    rw [cross_neg] at S1
    rw [(cross_dot p q).1] at I1
    rw [(cross_dot p q).2] at I2
    have E2 := Lib.hid (fun (x y z : Nat) (i1 : IsW x (p.cross q).x) (i2 : IsW y (p.cross q).y) (i3 : IsW z (p.cross q).z) W (hB : Below V10.heap.size V10 W) => callB (vEqual_yes W IC.out.1 (IsV.of i1 i2 i3)) hB)
    have A1 := Lib.hid (fun W (hB : Below V10.heap.size V10 W) => callB (addV W IA.out.1 IA.out.1 IA.out.2 IA.out.2 (by omega)) hB)
    rw [twice_eq] at A1
    have E3 := Lib.hid (fun (x y z : Nat) (i1 : IsW x (p.mul 2).x) (i2 : IsW y (p.mul 2).y) (i3 : IsW z (p.mul 2).z) W (hB : Below V10.heap.size V10 W) => callB (vEqual_yes W IT.out (IsV.of i1 i2 i3)) hB)
    have Q1 := Lib.hid (fun W (hB : Below V10.heap.size V10 W) => callB (KI W) hB)
    have Q2 := Lib.hid (fun W (hB : Below V10.heap.size V10 W) => callB (KQ W) hB)
    have L1 := Lib.hid (fun W (hB : Below V10.heap.size V10 W) => callB (long_any W hlq KI ⟨_, _, _, rfl⟩) hB)
    have R1 := Lib.hid (fun W (hB : Below V10.heap.size V10 W) => callS (sRoot_any W hlq) hB)
    have hsm : sm lq lq = true := by unfold sm; simp
    have N1 := Lib.hid (fun W (hB : Below V10.heap.size V10 W) => callS (sSame_any lq lq W hlq.lt hlq.lt) hB)
    rw [hsm] at N1
    clear irq KQ KI hlq hsm
    unfold vecV vecC at E1 I1 I2 S1 E2 A1 E3 Q1 Q2 L1
    have SW := Lib.hid (fun W (hW : Below V10.heap.size V10 W) => (show (W.cell? ⟨b5, 0, none⟩ = some (.float .f32 p1) ∧ W.cell? ⟨b5, 1, none⟩ = some (.float .f32 p2) ∧ W.cell? ⟨b5, 2, none⟩ = some (.float .f32 p3) ∧ W.cell? ⟨b6, 0, none⟩ = some (.float .f32 q1) ∧ W.cell? ⟨b6, 1, none⟩ = some (.float .f32 q2) ∧ W.cell? ⟨b6, 2, none⟩ = some (.float .f32 q3) ∧ W.cell? ⟨b7, 0, none⟩ = some (.float .f32 c1_) ∧ W.cell? ⟨b7, 1, none⟩ = some (.float .f32 c2_) ∧ W.cell? ⟨b7, 2, none⟩ = some (.float .f32 c3_) ∧ W.cell? ⟨b8, 0, none⟩ = some (.float .f32 d1_) ∧ W.cell? ⟨b8, 1, none⟩ = some (.float .f32 d2_) ∧ W.cell? ⟨b8, 2, none⟩ = some (.float .f32 d3_) ∧ W.cell? ⟨b9, 0, none⟩ = some (.float .f32 e1_) ∧ W.cell? ⟨b9, 1, none⟩ = some (.float .f32 e2_) ∧ W.cell? ⟨b9, 2, none⟩ = some (.float .f32 e3_) ∧ W.cell? ⟨b10, 0, none⟩ = some (.float .f32 t1_) ∧ W.cell? ⟨b10, 1, none⟩ = some (.float .f32 t2_) ∧ W.cell? ⟨b10, 2, none⟩ = some (.float .f32 t3_)) from by
      obtain ⟨x00, x01, x02⟩ := T10.out.2.at hW (b := b5) (x := p1) (y := p2) (z := p3) (by simp)
      obtain ⟨x10, x11, x12⟩ := T10.out.2.at hW (b := b6) (x := q1) (y := q2) (z := q3) (by simp)
      obtain ⟨x20, x21, x22⟩ := T10.out.2.at hW (b := b7) (x := c1_) (y := c2_) (z := c3_) (by simp)
      obtain ⟨x30, x31, x32⟩ := T10.out.2.at hW (b := b8) (x := d1_) (y := d2_) (z := d3_) (by simp)
      obtain ⟨x40, x41, x42⟩ := T10.out.2.at hW (b := b9) (x := e1_) (y := e2_) (z := e3_) (by simp)
      obtain ⟨x50, x51, x52⟩ := T10.out.2.at hW (b := b10) (x := t1_) (y := t2_) (z := t3_) (by simp)
      exact ⟨x00, x01, x02, x10, x11, x12, x20, x21, x22, x30, x31, x32, x40, x41, x42, x50, x51, x52⟩))
    have hA1 : Below V10.heap.size V10 V10.drew := below_drewN (Below.refl _ _) 1
    have hee : ∀ r, IsW r 0 → eq32 r 0 = true := fun r h => by rw [h.eq isW0]; rfl
    have HEE := Lib.hid hee
    clear hee
    go_cut [82] from 35 to 82 (fun v82 wx => v82 = .bool false ∧ Below V10.heap.size V10 wx)
    case first =>
      go_region_held3 (fun W => (W.cell? ⟨b5, 0, none⟩ = some (.float .f32 p1) ∧ W.cell? ⟨b5, 1, none⟩ = some (.float .f32 p2) ∧ W.cell? ⟨b5, 2, none⟩ = some (.float .f32 p3) ∧ W.cell? ⟨b6, 0, none⟩ = some (.float .f32 q1) ∧ W.cell? ⟨b6, 1, none⟩ = some (.float .f32 q2) ∧ W.cell? ⟨b6, 2, none⟩ = some (.float .f32 q3) ∧ W.cell? ⟨b7, 0, none⟩ = some (.float .f32 c1_) ∧ W.cell? ⟨b7, 1, none⟩ = some (.float .f32 c2_) ∧ W.cell? ⟨b7, 2, none⟩ = some (.float .f32 c3_) ∧ W.cell? ⟨b8, 0, none⟩ = some (.float .f32 d1_) ∧ W.cell? ⟨b8, 1, none⟩ = some (.float .f32 d2_) ∧ W.cell? ⟨b8, 2, none⟩ = some (.float .f32 d3_) ∧ W.cell? ⟨b9, 0, none⟩ = some (.float .f32 e1_) ∧ W.cell? ⟨b9, 1, none⟩ = some (.float .f32 e2_) ∧ W.cell? ⟨b9, 2, none⟩ = some (.float .f32 e3_) ∧ W.cell? ⟨b10, 0, none⟩ = some (.float .f32 t1_) ∧ W.cell? ⟨b10, 1, none⟩ = some (.float .f32 t2_) ∧ W.cell? ⟨b10, 2, none⟩ = some (.float .f32 t3_)))
        (first | (with_reducible refine SW.out _ ?_; assumption) | exact SW.out _ (Below.refl _ _) | go_keep)
        (first
          | (go_at_call 19; (with_reducible refine (E1.out _ ?_).mono ?_); assumption; rintro e wn0 ⟨rfl, hbn0⟩; (try unfold vecV vecC))
          | (go_at_call 20; (with_reducible refine (I1.out _ ?_).mono ?_); assumption; rintro e wn1 ⟨⟨r1, rfl, ir1⟩, hbn1⟩; (try unfold vecV vecC); have hr1 := HEE.out r1 ir1; clear ir1)
          | (go_at_call 20; (with_reducible refine (I2.out _ ?_).mono ?_); assumption; rintro e wn2 ⟨⟨r2, rfl, ir2⟩, hbn2⟩; (try unfold vecV vecC); have hr2 := HEE.out r2 ir2; clear ir2)
          | (go_at_call 18; (with_reducible refine (S1.out _ ?_).mono ?_); assumption; rintro e wn3 ⟨⟨x1, rfl, s1, s2, s3, rfl, i1, i2, i3⟩, hbn3⟩; (try unfold vecV vecC))
          | (go_at_call 19; (with_reducible refine (E2.out _ _ _ i1 i2 i3 _ ?_).mono ?_); assumption; rintro e wn4 ⟨rfl, hbn4⟩; (try unfold vecV vecC))
          | (go_at_call 16; (with_reducible refine (A1.out _ ?_).mono ?_); assumption; rintro e wn5 ⟨⟨x1, rfl, u1, u2, u3, rfl, j1, j2, j3⟩, hbn5⟩; (try unfold vecV vecC))
          | (go_at_call 19; (with_reducible refine (E3.out _ _ _ j1 j2 j3 _ ?_).mono ?_); assumption; rintro e wn6 ⟨rfl, hbn6⟩; (try unfold vecV vecC))
          | (go_at_call 20; (with_reducible refine (Q1.out _ ?_).mono ?_); assumption; rintro e wn7 ⟨rfl, hbn7⟩; (try unfold vecV vecC))
          | (go_at_call 21; (with_reducible refine (Q2.out _ ?_).mono ?_); assumption; rintro e wn8 ⟨rfl, hbn8⟩; (try unfold vecV vecC))
          | (go_at_call 23; (with_reducible refine (L1.out _ ?_).mono ?_); assumption; rintro e wn9 ⟨rfl, hbn9⟩; (try unfold vecV vecC))
          | (go_at_call 24; (with_reducible refine (R1.out _ ?_).mono ?_); assumption; rintro e wn10 ⟨rfl, hbn10⟩; (try unfold vecV vecC))
          | (go_at_call 22; (with_reducible refine (N1.out _ ?_).mono ?_); assumption; rintro e wn11 ⟨rfl, hbn11⟩; (try unfold vecV vecC)))
      go_wp2_with fail
      go_meet
      exact ⟨rfl, hbn11⟩
    case rest =>
      obtain ⟨rfl, hbn11⟩ := hcut
      obtain ⟨wn11, hwn⟩ : ∃ x, x = wc := ⟨_, rfl⟩
      subst hwn
      go_upto_region 11 with fail
      clear E1 I1 I2 S1 E2 A1 E3 Q1 Q2 L1 R1 N1 hA1 HEE
      have hA3 : Below V10.heap.size V10 wn11.drew := below_drewN hbn11 1
      have F1 := Lib.hid (fun W (hB : Below V10.heap.size V10 W) => callB (betweenV W IA.out.1 IB.out.1 isW0 IA.out.2 IB.out.2 (by decide)) hB)
      rw [between0] at F1
      have F2 := Lib.hid (fun W (hB : Below V10.heap.size V10 W) => callB (betweenV W IA.out.1 IB.out.1 isW1 IA.out.2 IB.out.2 (by decide)) hB)
      rw [between1] at F2
      have E4 := Lib.hid (fun (x y z : Nat) (i1 : IsW x p.x) (i2 : IsW y p.y) (i3 : IsW z p.z) W (hB : Below V10.heap.size V10 W) => callB (vEqual_yes W (IsV.of i1 i2 i3) IA.out.1) hB)
      have E5 := Lib.hid (fun (x y z : Nat) (i1 : IsW x q.x) (i2 : IsW y q.y) (i3 : IsW z q.z) W (hB : Below V10.heap.size V10 W) => callB (vEqual_yes W (IsV.of i1 i2 i3) IB.out.1) hB)
      unfold vecV vecC at F1 F2 E4 E5
      go_region_held3 (fun W => (W.cell? ⟨b5, 0, none⟩ = some (.float .f32 p1) ∧ W.cell? ⟨b5, 1, none⟩ = some (.float .f32 p2) ∧ W.cell? ⟨b5, 2, none⟩ = some (.float .f32 p3) ∧ W.cell? ⟨b6, 0, none⟩ = some (.float .f32 q1) ∧ W.cell? ⟨b6, 1, none⟩ = some (.float .f32 q2) ∧ W.cell? ⟨b6, 2, none⟩ = some (.float .f32 q3) ∧ W.cell? ⟨b7, 0, none⟩ = some (.float .f32 c1_) ∧ W.cell? ⟨b7, 1, none⟩ = some (.float .f32 c2_) ∧ W.cell? ⟨b7, 2, none⟩ = some (.float .f32 c3_) ∧ W.cell? ⟨b8, 0, none⟩ = some (.float .f32 d1_) ∧ W.cell? ⟨b8, 1, none⟩ = some (.float .f32 d2_) ∧ W.cell? ⟨b8, 2, none⟩ = some (.float .f32 d3_) ∧ W.cell? ⟨b9, 0, none⟩ = some (.float .f32 e1_) ∧ W.cell? ⟨b9, 1, none⟩ = some (.float .f32 e2_) ∧ W.cell? ⟨b9, 2, none⟩ = some (.float .f32 e3_) ∧ W.cell? ⟨b10, 0, none⟩ = some (.float .f32 t1_) ∧ W.cell? ⟨b10, 1, none⟩ = some (.float .f32 t2_) ∧ W.cell? ⟨b10, 2, none⟩ = some (.float .f32 t3_)))
        (first | (with_reducible refine SW.out _ ?_; assumption) | go_keep)
        (first
          | (go_at_call 25; (with_reducible refine (F1.out _ ?_).mono ?_); assumption; rintro e wm1 ⟨⟨y1, rfl, g1, g2, g3, rfl, i1, i2, i3⟩, hbm1⟩; (try unfold vecV vecC))
          | (go_at_call 19; (with_reducible refine (E4.out _ _ _ i1 i2 i3 _ ?_).mono ?_); assumption; rintro e wm2 ⟨rfl, hbm2⟩)
          | (go_at_call 25; (with_reducible refine (F2.out _ ?_).mono ?_); assumption; rintro e wm3 ⟨⟨y2, rfl, f1, f2, f3, rfl, j1, j2, j3⟩, hbm3⟩; (try unfold vecV vecC))
          | (go_at_call 19; (with_reducible refine (E5.out _ _ _ j1 j2 j3 _ ?_).mono ?_); assumption; rintro e wm4 ⟨rfl, hbm4⟩))
      go_upto_region 13 with fail
      clear F1 F2 E4 E5 SW hA3
      have hw4 : Below w.heap.size w wm4 := T10.out.1.trans (hbm4.mono T10.out.1.size)
      have HW4 := Lib.hid hw4
      have KY := Lib.hid (b10Any_any wm4 a0 l0 c0 (HB0.out wm4 hw4))
      clear hw4
      go_wp2_with fail
      refine KY.out.mono ?_
      rintro e wy ⟨v1, v2, v3, rfl, hv1, hv2, hv3, hby⟩
      have HV := Lib.hid (And.intro hv1 (And.intro hv2 hv3))
      have hby' := HW4.out.trans (hby.mono HW4.out.size)
      clear KY
      obtain ⟨b11, hb11b⟩ : ∃ b, wy.heap.size = b := ⟨_, rfl⟩
      obtain ⟨V11, hV11⟩ : ∃ W, W = wy.alloc (.cells #[.float .f32 v1, .float .f32 v2, .float .f32 v3] 39) := ⟨_, rfl⟩
      have hB11 : Below w.heap.size w V11 := by rw [hV11]; exact (hby').trans (((Below.refl _ _).alloc (Nat.le_refl _) _).mono (hby').size)
      have hC11 : Below wy.heap.size wy V11 := by rw [hV11]; exact (Below.refl _ _).alloc (Nat.le_refl _) _
      have hX11 : BoxN V11 b11 #[.float .f32 v1, .float .f32 v2, .float .f32 v3] 39 := by rw [hV11, ← hb11b]; exact BoxN.last wy _ _
      have T11 := Lib.hid (And.intro hB11 (show Bxs V11 [(b11, v1, v2, v3)] from fun q hq => by rw [List.mem_singleton.1 hq]; exact hX11))
      have HV11 := Lib.hid hV11
      have HBB11 := Lib.hid hb11b
      clear hV11 hb11b hB11 hC11 hX11
      try unfold vecV vecC
      go_upto_region 14 with fail
      rw [← HV11.out, HBB11.out]
      clear HV11 HBB11
      clear hby hby' T10 HW4
      have KT := Lib.hid (vectorText_any V11 hv1 hv2 hv3)
      unfold vecV vecC at KT
      have hnt := numR_text (bs := [v1, v2, v3]) (by intro b hb; simp at hb; rcases hb with rfl | rfl | rfl <;> assumption) (by simp)
      have hnl : (numT [v1, v2, v3]).length = 26 := numT_len (by simp)
      obtain ⟨T, hT⟩ : ∃ T : ByteArray, (⟨(numT [v1, v2, v3]).toArray⟩ : ByteArray) = T := ⟨_, rfl⟩
      have hTd : T.data.toList = numT [v1, v2, v3] := by rw [← hT]
      have hTs : T.size = 26 := by rw [← ba_size, hTd]; exact hnl
      rw [← hTd] at hnt
      rw [hT] at KT
      have hti : (((T.size : Nat) : Int) == 26) = true := by rw [hTs]; rfl
      have KR := Lib.hid (fun W (hb : Below w.heap.size w W) => readVector_any W T m (by rw [hTs]; decide) (HM.out W hb) hnt)
      clear hnt hnl hT hTd hTs hv1 hv2 hv3
      obtain ⟨k10, k11, k12⟩ := T11.out.2.at (W := V11) (Below.refl _ _) (b := b11) (x := v1) (y := v2) (z := v3) (by simp)
      go_wp2_with fail
      refine KT.out.mono ?_
      rintro e wt ⟨rfl, hbt⟩
      have HT2 := Lib.hid (T11.out.2.below hbt)
      have hbt' := T11.out.1.trans (hbt.mono T11.out.1.size)
      have HBT := Lib.hid hbt'
      clear k10 k11 k12 hbt hbt' KT
      go_wp2_with fail
      refine (KR.out _ HBT.out).mono ?_
      rintro e ws ⟨rfl, hz1, hz2, hz3, hbs⟩
      obtain ⟨z1, hz1e⟩ : ∃ z, fl v1 = z := ⟨_, rfl⟩
      obtain ⟨z2, hz2e⟩ : ∃ z, fl v2 = z := ⟨_, rfl⟩
      obtain ⟨z3, hz3e⟩ : ∃ z, fl v3 = z := ⟨_, rfl⟩
      have hfl : [z1, z2, z3].map fl = [v1, v2, v3].map fl := by rw [← hz1e, ← hz2e, ← hz3e]; simp [fl_fl]
      rw [hz1e] at hz1
      rw [hz2e] at hz2
      rw [hz3e] at hz3
      rw [hz1e, hz2e, hz3e]
      have HZ := Lib.hid (And.intro hz1 (And.intro hz2 hz3))
      have hbs' := HBT.out.trans (hbs.mono HBT.out.size)
      obtain ⟨b13, hb13b⟩ : ∃ b, ws.heap.size = b := ⟨_, rfl⟩
      obtain ⟨V13, hV13⟩ : ∃ W, W = ws.alloc (.cells #[.float .f32 z1, .float .f32 z2, .float .f32 z3] 39) := ⟨_, rfl⟩
      have hB13 : Below w.heap.size w V13 := by rw [hV13]; exact (hbs').trans (((Below.refl _ _).alloc (Nat.le_refl _) _).mono (hbs').size)
      have hC13 : Below ws.heap.size ws V13 := by rw [hV13]; exact (Below.refl _ _).alloc (Nat.le_refl _) _
      have hX13 : BoxN V13 b13 #[.float .f32 z1, .float .f32 z2, .float .f32 z3] 39 := by rw [hV13, ← hb13b]; exact BoxN.last ws _ _
      have T13 := Lib.hid (And.intro hB13 (((HT2.out.below hbs).below hC13).cons hX13))
      have HV13 := Lib.hid hV13
      have HBB13 := Lib.hid hb13b
      clear hV13 hb13b hB13 hC13 hX13
      try unfold vecV vecC
      go_upto_region 16 with fail
      rw [← HV13.out, HBB13.out]
      clear HV13 HBB13
      have KS := Lib.hid (sameVector_any V13 HZ.out.1 HZ.out.2.1 HZ.out.2.2 HV.out.1 HV.out.2.1 HV.out.2.2 hfl)
      unfold vecV vecC at KS
      clear hz1 hz2 hz3 hz1e hz2e hz3e hfl hbs hbs' T11 HT2
      obtain ⟨k10, k11, k12⟩ := T13.out.2.at (W := V13) (Below.refl _ _) (b := b11) (x := v1) (y := v2) (z := v3) (by simp)
      obtain ⟨k30, k31, k32⟩ := T13.out.2.at (W := V13) (Below.refl _ _) (b := b13) (x := z1) (y := z2) (z := z3) (by simp)
      go_wp2_with fail
      refine KS.out.mono ?_
      rintro e wl ⟨rfl, hbl⟩
      have HL := Lib.hid (T13.out.1.trans (hbl.mono T13.out.1.size))
      clear hbl KS
      go_wp2_with fail
      go_ret
      exact ⟨rfl, HL.out⟩

end Go.Proofs.YtjibghjongplpaaDoor
