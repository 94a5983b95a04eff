/- The law FnPlaneMaps: its walk. -/
import Derived.Test.YtkhoifgljalfcaaQj
import Derived.Test.YtkhoifgljalfcaaQc
import Derived.Test.YtkhoifgljalfcaaLaw
import Derived.Test.YtkhoifgljalfcaaGen
import Derived.Deep.RegionHeld3
import Derived.Deep.Cut
import Derived.Deep.CutRange
namespace Go.Proofs.Ytkhoifgljalfcaa
open Go.RowKit Ieee
set_option maxRecDepth 100000
set_option linter.unusedVariables false
set_option linter.unusedSimpArgs false

theorem quo16_5 : ∀ i : Fin 5, floatBits .quo .f32 (fq 0 ((i.val : Int) - 2)) 1098907648 = some (fq 4 ((i.val : Int) - 2)) := by decide +kernel
theorem six_of {z : Int} (h0 : 0 ≤ z) (h1 : z ≤ 4) : ∃ a b, floatOfInt .f32 (z - 2) = a ∧ fq 4 (z - 2) = b ∧ floatBits .quo .f32 a 1098907648 = some b := by
  have := quo16_5 ⟨z.toNat, by omega⟩
  have e : ((z.toNat : Nat) : Int) = z := by omega
  simp only [e] at this
  exact ⟨_, _, fq_ofInt (by omega), rfl, this⟩
theorem ex_same {g a b : Nat} {k : Int} (ha : Ex g a k) (hb : Ex g b k) (hk : 0 < k) : a = b := by
  have h1 := ha.sv
  have h2 := hb.sv
  have hp := pow_pos_z (149 - g)
  have h3 : 0 < k * ((2 ^ (149 - g) : Nat) : Int) := Int.mul_pos hk hp
  have key : ∀ w, 0 < sv single w → sgn single w = false ∧ sv single w = (unit single (rg single w) : Int) := by
    intro w h
    unfold sv at h ⊢
    cases hs : sgn single w
    · simp
    · rw [hs] at h; simp at h; omega
  obtain ⟨s1, u1⟩ := key a (by rw [h1]; exact h3)
  obtain ⟨s2, u2⟩ := key b (by rw [h2]; exact h3)
  have hu : (unit single (rg single a) : Int) = (unit single (rg single b) : Int) := (u1.symm.trans (h1.trans h2.symm)).trans u2
  have e := unit_inj single (Int.ofNat.inj hu)
  rw [← word32 ha.lt, ← word32 hb.lt, s1, s2, e]

/-- What the law asks of a point. -/
structure PtGood (A A' C : Nat) (p : Pt3) : Prop where
  ex : ∃ pw q s h, HgOk A A' C p.1 p.2.1 pw q s h ∧ Fw p.2.2 ∧ Fw h ∧ 0 < rv p.2.2 ∧ rv p.2.2 ≤ 900 ∧ Wi (rv h) (rv p.2.2) (1 / 400)
/-- All that is told of a camera and a plane. -/
structure PlFacts (F B mx my A A' C : Nat) : Prop where
  cam : CamOk F B mx my
  ex : ∃ (G G0 : Nat → Nat → Nat) (fb dd : Nat) (P : Nat → Option Pt3), floatBits .mul .f32 F B = some fb ∧ (∀ x y, x < 4 → y < 3 → PmOk F B mx my A A' C x y (G x y)) ∧ (∀ x y, x < 4 → y < 3 → PmOk F B mx my 0 0 C x y (G0 x y)) ∧
    (∀ x y, x < 4 → y < 3 → pmW (G0 x y) = dd) ∧ DepOk F B mx my C fb dd ∧ Fw dd ∧ 0 < rv dd ∧ rv dd ≤ 64 ∧ (∀ i, i < 12 → PF F mx my fb 4 i (pmW (G (i % 4) (i / 4))) (P i)) ∧ ∀ i p, i < 12 → P i = some p → PtGood A A' C p
def CellF (F B mx my A A' C fb x y d : Nat) (o : Option Pt3) : Prop := PmOk F B mx my A A' C x y d ∧
  (o = none → plusB d = false) ∧ ∀ p, o = some p → plusB d = true ∧ floatBits .quo .f32 fb d = some p.2.2 ∧ plusB p.2.2 = true ∧ (∃ dx ux dy uy, PtOk F mx my (fq 0 (x : Int)) (fq 0 (y : Int)) p.2.2 dx ux p.1 dy uy p.2.1) ∧ PtGood A A' C p
theorem cell_f {f b m n a a' c : Int} (h : PlN f b m n a a' c) {fb : Nat} (xfb : Ex 3 fb (f * b)) {x y : Nat} (hx : x < 4) (hy : y < 3) : ∃ d o, CellF (fq 1 f) (fq 2 b) (fq 1 m) (fq 1 n) (fq 4 a) (fq 4 a') (fq 2 c) fb x y d o := by
  obtain ⟨d, lb, l2, k1, k2, k3, k4, k5, k6, k7, k8⟩ := pm_words h hx hy
  by_cases hL : 0 < lessN f m n a a' x y
  · obtain ⟨g1, g2, g3⟩ := k8 hL
    obtain ⟨z, dx, ux, X, dy, uy, Y, p, q, s, hh, w1, w2, w3, w4, w5, w6, w7, w8, w9⟩ := pt_words h hx hy xfb k2 k3 k4 hL g2 g3
    refine ⟨d, some (X, Y, z), k1, fun e => (by cases e), fun p' hp => ?_⟩
    cases hp
    exact ⟨g1, w1, w2, ⟨dx, ux, dy, uy, w3⟩, ⟨p, q, s, hh, w4, w5, w6, w7, w8, w9⟩⟩
  · exact ⟨d, none, k1, fun _ => k7 (by omega), fun p' hp => by cases hp⟩
theorem plFacts {f b m n a a' c : Int} (h : PlN f b m n a a' c) : PlFacts (fq 1 f) (fq 2 b) (fq 1 m) (fq 1 n) (fq 4 a) (fq 4 a') (fq 2 c) := by
  obtain ⟨hc, fb, efb, xfb⟩ := cam_ok h
  have h0 : PlN f b m n 0 0 c := ⟨h.f1, h.f2, h.b1, h.b2, h.m1, h.m2, h.n1, h.n2, by decide, by decide, h.c1, h.c2⟩
  have hQ : ∀ i : Nat, ∃ q : Nat × Option Pt3, i < 12 → CellF (fq 1 f) (fq 2 b) (fq 1 m) (fq 1 n) (fq 4 a) (fq 4 a') (fq 2 c) fb (i % 4) (i / 4) q.1 q.2 := by
    intro i
    by_cases hi : i < 12
    · obtain ⟨d, o, hd⟩ := cell_f h xfb (x := i % 4) (y := i / 4) (by omega) (by omega)
      exact ⟨(d, o), fun _ => hd⟩
    · exact ⟨(0, none), fun h => absurd h hi⟩
  obtain ⟨Q, hQ⟩ := Classical.axiomOfChoice hQ
  -- the flat plane
  have flat : ∀ x y : Nat, x < 4 → y < 3 → ∃ d, PmOk (fq 1 f) (fq 2 b) (fq 1 m) (fq 1 n) 0 0 (fq 2 c) x y d ∧ floatBits .quo .f32 fb (fq 2 c) = some d ∧ plusB d = true ∧ Fw d ∧ 0 < rv d ∧ Wi (rv d * rv (fq 2 c)) (rv fb) (rv fb * eps) := by
    intro x y hx hy
    obtain ⟨d, lb, l2, k1, k2, k3, k4, k5, k6, k7, k8⟩ := pm_words h0 hx hy
    have hL : lessN f m n 0 0 x y = f * 16 := by unfold lessN; simp
    rw [hL] at k4 k8
    have e16 : ((2 ^ 4 : Nat) : Int) = 16 := rfl
    have x2 := xfb.lift 4 (by omega)
    rw [e16] at x2
    have e3 : f * b * 16 = f * 16 * b := by grind
    rw [e3] at x2
    have hpos : 0 < f * 16 * b := Int.mul_pos (by have := h.f1; omega) (by have := h.b1; omega)
    have elb : lb = fb := ex_same k4 x2 hpos
    obtain ⟨g1, g2, g3⟩ := k8 (by have := h.f1; omega)
    rw [elb] at k6 g3
    rw [fq_zero] at k1
    exact ⟨d, k1, k6, g1, k2, g2, g3⟩
  obtain ⟨dd, d1, d2, d3, d4, d5, d6⟩ := flat 0 0 (by omega) (by omega)
  have eC := ex_fq (g := 2) (k := c) (by omega) (by have := h.c1; have := h.c2; omega)
  have rC := rv_bd eC (by omega) h.c1 h.c2
  have hfb2 : f * b ≤ 128 := by have := abs_mul_le (x := f) (y := b) (m := 16) (n := 8) (by have := h.f1; have := h.f2; omega) (by have := h.b1; have := h.b2; omega); omega
  have hfb1 : 1 ≤ f * b := by have : 1 * b ≤ f * b := Int.mul_le_mul_of_nonneg_right h.f1 (by have := h.b1; omega); have := h.b1; omega
  have rfb := rv_bd xfb (by omega) hfb1 hfb2
  have k4 : (((2 ^ 2 : Nat) : Int) : Rat) = 4 := rfl
  have k8 : (((2 ^ 3 : Nat) : Int) : Rat) = 8 := rfl
  have cc2 : ((2 : Int) : Rat) = 2 := rfl
  have c13 : ((13 : Int) : Rat) = 13 := rfl
  have c1' : ((1 : Int) : Rat) = 1 := rfl
  have c128 : ((128 : Int) : Rat) = 128 := rfl
  rw [k4, cc2, c13] at rC
  rw [k8, c1', c128] at rfb
  have hC0 : 0 < rv (fq 2 c) := by grind
  have hs := eps_small
  have hfbe := Rat.mul_le_mul_of_nonneg_right hs (show 0 ≤ rv fb by grind)
  have hd64 : rv dd ≤ 64 := Rat.le_of_mul_le_mul_right (c := rv (fq 2 c)) (by have := d6.2; grind) hC0
  refine ⟨hc, fun x y => (Q (x + 4 * y)).1, fun _ _ => dd, fb, dd, fun i => (Q i).2, efb, ?_, ?_, ?_, ⟨hc, plus_pos eC.fw hC0, efb, d2, d3⟩, d4, d5, hd64, ?_, ?_⟩
  · intro x y hx hy
    have := (hQ (x + 4 * y) (by omega)).1
    rwa [show (x + 4 * y) % 4 = x by omega, show (x + 4 * y) / 4 = y by omega] at this
  · intro x y hx hy
    obtain ⟨d', q1, q2, -⟩ := flat x y hx hy
    rw [d2] at q2
    injection q2 with q2
    rw [q2]; exact q1
  · intro x y hx hy
    unfold pmW
    rw [d3]; rfl
  · intro i hi
    have hq := hQ i hi
    have hG : (Q (i % 4 + 4 * (i / 4))).1 = (Q i).1 := by rw [show i % 4 + 4 * (i / 4) = i by omega]
    show PF (fq 1 f) (fq 1 m) (fq 1 n) fb 4 i (pmW (Q (i % 4 + 4 * (i / 4))).1) (Q i).2
    rw [hG]
    cases hP : (Q i).2 with
    | none =>
      have := hq.2.1 hP
      show plusB (pmW (Q i).1) = false
      unfold pmW
      rw [this]
      show plusB 3212836864 = false
      decide
    | some p =>
      obtain ⟨g1, g2, g3, ⟨dx, ux, dy, uy, g4⟩, -⟩ := hq.2.2 p hP
      have e : pmW (Q i).1 = (Q i).1 := by unfold pmW; rw [g1]; rfl
      rw [e]
      exact ⟨g1, g2, g3, _, _, dx, ux, dy, uy, fq_ofInt (by omega), fq_ofInt (by omega), g4⟩
  · intro i p hi hP
    exact ((hQ i hi).2.2 p hP).2.2.2.2

theorem getD_tab (F : Nat → Nat) {n i : Nat} (h : i < n) : ((List.range n).map F).getD i 0 = F i := by
  rw [List.getD_eq_getElem?_getD, List.getElem?_map, List.getElem?_range h]; rfl

theorem f64op {a b r : Nat} (op : BinOp) (h : floatBits op .f64 a b = some r) : (∀ W, fres op .f64 a b W = r) ∧ fdr op .f64 a b = 0 := ⟨fun W => fres_some h W, fdr_some h⟩

theorem callPB {W6 W : World} {f : Nat} {args : Array Value} {Q : Ending → Prop} (h : Calls Try.prog f args W fun e w' => Q e ∧ Below W.heap.size W w') (hB : Below W6.heap.size W6 W) :
    Calls Try.prog f args W fun e w' => Q e ∧ Below W6.heap.size W6 w' := h.mono fun e w' ⟨q, hb⟩ => ⟨q, hB.trans (hb.mono hB.size)⟩
theorem callPS {W6 W : World} {f : Nat} {args : Array Value} {Q : Ending → Prop} (h : Calls Try.prog f args W fun e w' => Q e ∧ W = w') (hB : Below W6.heap.size W6 W) :
    Calls Try.prog f args W fun e w' => Q e ∧ Below W6.heap.size W6 w' := h.mono fun e w' ⟨q, hb⟩ => ⟨q, hb ▸ hB⟩

theorem three_c {w : World} {b : Nat} {x y z : Value} {T : TypeId} (h : BoxN w b #[x, y, z] T) : w.cell? ⟨b, 0, none⟩ = some x ∧ w.cell? ⟨b, 1, none⟩ = some y ∧ w.cell? ⟨b, 2, none⟩ = some z := ⟨h.cell 0, h.cell 1, h.cell 2⟩

set_option maxHeartbeats 4000000 in
theorem fnPlaneMaps_walk (w : World) (a0 a1 : Option Addr) (l0 c0 l1 c1 : Nat) (z0 z1 : List Int)
    (r0 : (a0 = none ∧ l0 = 0 ∧ c0 = 0 ∧ z0 = []) ∨ ∃ x, a0 = some x ∧ l0 ≤ c0 ∧ c0 ≤ maxLen ∧ z0.length = c0 ∧ (∀ i, i < z0.length → w.cell? (x.add i) = some (.int .u8 (z0.getD i 0))) ∧ ∀ n ∈ z0, (Lit.int .u8 n).wf = true)
    (r1 : (a1 = none ∧ l1 = 0 ∧ c1 = 0 ∧ z1 = []) ∨ ∃ x, a1 = some x ∧ l1 ≤ c1 ∧ c1 ≤ maxLen ∧ z1.length = c1 ∧ (∀ i, i < z1.length → w.cell? (x.add i) = some (.int .u8 (z1.getD i 0))) ∧ ∀ n ∈ z1, (Lit.int .u8 n).wf = true) :
    Calls Try.prog 4 #[.slice a0 l0 c0, .slice a1 l1 c1] w fun e w' => e = .returned (.bool true) ∧ Below w.heap.size w w' := by
  by_cases hl : l0 ≤ 48 ∧ l1 ≤ 48
  case neg =>
    have m0 := len_of_row r0
    have m1 := len_of_row r1
    clear r0 r1
    go_enter Try.func4, Try.ntmps4
    go_wp2_with fail
    refine (r8Long_yes _ _ _ _ _ _ _ m0 m1 hl).mono ?_
    rintro e w' ⟨rfl, rfl⟩
    go_wp2_with fail
    go_ret
    exact ⟨rfl, Below.refl _ _⟩
  obtain ⟨h0, h1⟩ := hl
  have HB0 := Lib.hid (bytesIn_of_row r0 (by omega))
  have HB1 := Lib.hid (bytesIn_of_row r1 (by omega))
  clear r0 r1
  go_enter Try.func4, Try.ntmps4
  go_wp2_with fail
  refine (r8Long_no _ _ _ _ _ _ _ h0 h1).mono ?_
  rintro e w' ⟨rfl, rfl⟩
  clear h0 h1
  go_wp2_with fail
  refine (r8Camera_any w a0 l0 c0 HB0.out).mono ?_
  rintro e w1 ⟨f, b, m, n, rfl, f1, f2, b1, b2, m1, m2, n1, n2, hb1⟩
  unfold camC
  obtain ⟨F, hF⟩ : ∃ x, fq 1 f = x := ⟨_, rfl⟩
  obtain ⟨B, hB⟩ : ∃ x, fq 2 b = x := ⟨_, rfl⟩
  obtain ⟨mx, hmx⟩ : ∃ x, fq 1 m = x := ⟨_, rfl⟩
  obtain ⟨my, hmy⟩ : ∃ x, fq 1 n = x := ⟨_, rfl⟩
  rw [hF, hB, hmx, hmy]
  obtain ⟨bC, hbC⟩ : ∃ k, w1.heap.size = k := ⟨_, rfl⟩
  obtain ⟨V1, hV1⟩ : ∃ W, W = w1.alloc (.cells #[.float .f32 F, .float .f32 B, .float .f32 mx, .float .f32 my] 37) := ⟨_, rfl⟩
  have hbV1 : Below w.heap.size w V1 := by rw [hV1]; exact hb1.alloc hb1.size _
  have hxV1 : BoxN V1 bC #[.float .f32 F, .float .f32 B, .float .f32 mx, .float .f32 my] 37 := by rw [hV1, ← hbC]; exact BoxN.last w1 _ _
  have H1 := Lib.hid (And.intro hbV1 hxV1)
  have KA := Lib.hid (fun k n hn hn2 hk => r8At_any V1 a1 l1 c1 k n hn hn2 hk (HB1.out.below hbV1))
  have HV1 := Lib.hid hV1
  have HBC := Lib.hid hbC
  have HN := Lib.hid (And.intro (And.intro f1 f2) (And.intro (And.intro b1 b2) (And.intro (And.intro m1 m2) (And.intro n1 n2))))
  have HW := Lib.hid (And.intro hF (And.intro hB (And.intro hmx hmy)))
  clear hb1 hbV1 hxV1 hV1 hbC f1 f2 b1 b2 m1 m2 n1 n2 hF hB hmx hmy HB0 HB1
  have hd0 : ∀ W : World, W.drewN 0 = W := fun _ => rfl
  go_upto_region 4 with fail
  rw [← HV1.out, HBC.out]
  go_wp2_with fail
  refine (KA.out 0 5 (by omega) (by omega) (by omega)).mono ?_
  rintro e w' ⟨k0, rfl, p0, q0, rfl⟩
  obtain ⟨x0, A, o0, t0, d0⟩ := six_of (z := k0) p0 (by omega)
  have u0 : IntKind.i64.wrap (k0 - 2) = k0 - 2 := IntWalk.i64_in _ (by omega)
  obtain ⟨g0, g0'⟩ := f32op .quo d0
  have HA := Lib.hid (And.intro t0 (And.intro p0 q0))
  clear d0 t0 p0 q0
  go_wp2_with fail
  refine (KA.out 1 5 (by omega) (by omega) (by omega)).mono ?_
  rintro e w' ⟨k1, rfl, p1, q1, rfl⟩
  obtain ⟨x1, A', o1, t1, d1⟩ := six_of (z := k1) p1 (by omega)
  have u1 : IntKind.i64.wrap (k1 - 2) = k1 - 2 := IntWalk.i64_in _ (by omega)
  obtain ⟨g1, g1'⟩ := f32op .quo d1
  have HA' := Lib.hid (And.intro t1 (And.intro p1 q1))
  clear d1 t1 p1 q1
  go_wp2_with fail
  refine (KA.out 2 12 (by omega) (by omega) (by omega)).mono ?_
  rintro e w' ⟨k2, rfl, p2, q2, rfl⟩
  obtain ⟨x2, C, o2, t2, d2⟩ := quart_of (z := 2 + k2) (by omega) (by omega)
  have u2 : IntKind.i64.wrap (2 + k2) = 2 + k2 := IntWalk.i64_in _ (by omega)
  obtain ⟨g2, g2'⟩ := f32op .quo d2
  have HC := Lib.hid (And.intro t2 (And.intro p2 q2))
  clear d2 t2 p2 q2 KA
  go_upto_region 5 with fail
  clear o0 o1 o2 u0 u1 u2 g0 g0' g1 g1' g2 g2'
  obtain ⟨tA, pA, qA⟩ := HA.out
  obtain ⟨tA', pA', qA'⟩ := HA'.out
  obtain ⟨tC, pC, qC⟩ := HC.out
  obtain ⟨eF, eB, emx, emy⟩ := HW.out
  have hPl := plFacts (f := f) (b := b) (m := m) (n := n) (a := k0 - 2) (a' := k1 - 2) (c := 2 + k2) ⟨HN.out.1.1, HN.out.1.2, HN.out.2.1.1, HN.out.2.1.2, HN.out.2.2.1.1, HN.out.2.2.1.2, HN.out.2.2.2.1, HN.out.2.2.2.2, by omega, by omega, by omega, by omega⟩
  rw [tA, tA', tC, eF, eB, emx, emy] at hPl
  clear tA pA qA tA' pA' qA' tC pC qC eF eB emx emy HA HA' HC HW HN
  obtain ⟨hcam, G, G0, fb, dd, P, efb, hG, hG0, hflat, hdep, fdd, rd0, rd64, hPF, hgood⟩ := hPl
  obtain ⟨bP, hbP⟩ : ∃ k, V1.heap.size = k := ⟨_, rfl⟩
  obtain ⟨V2, hV2⟩ : ∃ W, W = V1.alloc (.cells #[.float .f32 A, .float .f32 A', .float .f32 C] 40) := ⟨_, rfl⟩
  have hV12 : Below V1.heap.size V1 V2 := by rw [hV2]; exact (Below.refl _ _).alloc (Nat.le_refl _) _
  have hbV2 : Below w.heap.size w V2 := H1.out.1.trans (hV12.mono H1.out.1.size)
  have hxP : BoxN V2 bP #[.float .f32 A, .float .f32 A', .float .f32 C] 40 := by rw [hV2, ← hbP]; exact BoxN.last V1 _ _
  have H2 := Lib.hid (And.intro hbV2 (And.intro (H1.out.2.below hV12) hxP))
  have K3 := Lib.hid (planeMap_any V2 G hcam hG)
  have K4 := Lib.hid (fun W => planeMap_any W G0 hcam hG0)
  have K5 := Lib.hid (fun W g c (hown : OwnF W w.heap.size (.slice (some ⟨g, 0, none⟩) 12 c) ((List.range 12).map fun i => pmW (G (i % 4) (i / 4)))) => pointsOf_any W 4 3 12 g 0 c _ P hcam efb (by decide) (by omega) (by omega) (by omega) hown.sl (by simp) (fun i hi => by rw [getD_tab _ hi]; exact hPF i hi))
  have K6 := Lib.hid (fun W => disparityOf_yes W hdep)
  have HGD := Lib.hid hgood
  have HFL := Lib.hid hflat
  have HDD := Lib.hid (And.intro fdd (And.intro rd0 rd64))
  have HV2 := Lib.hid hV2
  have HBP := Lib.hid hbP
  clear hcam efb hG hG0 hflat hdep fdd rd0 rd64 hPF hgood hbP hV2 hV12 hbV2 hxP H1 HV1 HBC
  unfold camC at K3 K4 K5 K6
  rw [← HV2.out, HBP.out]
  obtain ⟨c0, c1, c2, c3⟩ := cam_cells H2.out.2.1
  obtain ⟨n0, n1, n2⟩ := three_c H2.out.2.2
  go_wp2_with fail
  refine K3.out.mono ?_
  rintro e w3 ⟨g, gc, rfl, hown, hb3⟩
  clear c0 c1 c2 c3 n0 n1 n2 K3
  obtain ⟨bM, hbM⟩ : ∃ k, w3.heap.size = k := ⟨_, rfl⟩
  obtain ⟨V3, hV3⟩ : ∃ W, W = w3.alloc (.cells #[.int .i64 4, .int .i64 3, .slice (some ⟨g, 0, none⟩) 12 gc] 43) := ⟨_, rfl⟩
  have hV23 : Below V2.heap.size V2 V3 := by rw [hV3]; exact hb3.alloc hb3.size _
  have hal3 : Below w3.heap.size w3 V3 := by rw [hV3]; exact (Below.refl _ _).alloc (Nat.le_refl _) _
  have hbV3 : Below w.heap.size w V3 := H2.out.1.trans (hV23.mono H2.out.1.size)
  have hxM : BoxN V3 bM #[.int .i64 4, .int .i64 3, .slice (some ⟨g, 0, none⟩) 12 gc] 43 := by rw [hV3, ← hbM]; exact BoxN.last w3 _ _
  have H3 := Lib.hid (And.intro hbV3 (And.intro (H2.out.2.1.below hV23) (And.intro (H2.out.2.2.below hV23) (And.intro hxM ((hown.below hal3).mono H2.out.1.size)))))
  have HV3 := Lib.hid hV3
  have HBM := Lib.hid hbM
  clear hb3 hown hbM hV3 hV23 hal3 hbV3 hxM H2 HV2 HBP
  go_upto_region 6 with fail
  rw [← HV3.out, HBM.out]
  obtain ⟨c0, c1, c2, c3⟩ := cam_cells H3.out.2.1
  obtain ⟨n0, n1, n2⟩ := three_c H3.out.2.2.1
  go_wp2_with fail
  refine (K4.out V3).mono ?_
  rintro e w4 ⟨g4, gc4, rfl, hown, hb4⟩
  clear c0 c1 c2 c3 n0 n1 n2 K4
  obtain ⟨bN, hbN⟩ : ∃ k, w4.heap.size = k := ⟨_, rfl⟩
  obtain ⟨V4, hV4⟩ : ∃ W, W = w4.alloc (.cells #[.int .i64 4, .int .i64 3, .slice (some ⟨g4, 0, none⟩) 12 gc4] 43) := ⟨_, rfl⟩
  have hV34 : Below V3.heap.size V3 V4 := by rw [hV4]; exact hb4.alloc hb4.size _
  have hal4 : Below w4.heap.size w4 V4 := by rw [hV4]; exact (Below.refl _ _).alloc (Nat.le_refl _) _
  have hbV4 : Below w.heap.size w V4 := H3.out.1.trans (hV34.mono H3.out.1.size)
  have hxN : BoxN V4 bN #[.int .i64 4, .int .i64 3, .slice (some ⟨g4, 0, none⟩) 12 gc4] 43 := by rw [hV4, ← hbN]; exact BoxN.last w4 _ _
  have H4 := Lib.hid (And.intro hbV4 (And.intro (H3.out.2.1.below hV34) (And.intro (H3.out.2.2.1.below hV34) (And.intro (H3.out.2.2.2.1.below hV34) (And.intro (H3.out.2.2.2.2.below hV34) (And.intro hxN ((hown.below hal4).mono H3.out.1.size)))))))
  have HV4 := Lib.hid hV4
  have HBN := Lib.hid hbN
  clear hb4 hown hbN hV4 hV34 hal4 hbV4 hxN H3 HV3 HBM
  go_upto_region 7 with fail
  rw [← HV4.out, HBN.out]
  obtain ⟨c0, c1, c2, c3⟩ := cam_cells H4.out.2.1
  obtain ⟨n0, n1, n2⟩ := three_c H4.out.2.2.2.1
  go_wp2_with fail
  refine (K5.out V4 g gc H4.out.2.2.2.2.1).mono ?_
  rintro e w5 ⟨gv, gi, k, vc, ic, rfl, hv, -, hk, -, -, hb5⟩
  clear c0 c1 c2 c3 n0 n1 n2 K5
  have hbV5 : Below w.heap.size w w5 := H4.out.1.trans (hb5.mono H4.out.1.size)
  have H5 := Lib.hid (And.intro hbV5 (And.intro (H4.out.2.1.below hb5) (And.intro (H4.out.2.2.1.below hb5) (And.intro (H4.out.2.2.2.1.below hb5) (And.intro (H4.out.2.2.2.2.2.1.below hb5) (And.intro (H4.out.2.2.2.2.2.2.below hb5) (hv.mono H4.out.1.size)))))))
  have HK := Lib.hid hk
  clear hb5 hv hk hbV5 H4 HV4 HBN
  obtain ⟨c0, c1, c2, c3⟩ := cam_cells H5.out.2.1
  obtain ⟨n0, n1, n2⟩ := three_c H5.out.2.2.1
  go_upto_region 8 with fail
  go_wp2_with fail
  refine (K6.out w5).mono ?_
  rintro e w6 ⟨rfl, hb6⟩
  clear c0 c1 c2 c3 n0 n1 n2 K6
  have hbV6 : Below w.heap.size w w6 := H5.out.1.trans (hb6.mono H5.out.1.size)
  have H6 := Lib.hid (And.intro hbV6 (And.intro (H5.out.2.2.1.below hb6) (And.intro (H5.out.2.2.2.1.below hb6) (And.intro (H5.out.2.2.2.2.1.below hb6) (And.intro (H5.out.2.2.2.2.2.1.below hb6) (H5.out.2.2.2.2.2.2.below hb6))))))
  clear hb6 hbV6 H5
  obtain ⟨c0, c1, c2⟩ := three_c H6.out.2.2.1
  obtain ⟨n0, n1, n2⟩ := three_c H6.out.2.2.2.1
  go_upto_region 11 with fail
  go_wp2_with fail
  obtain ⟨ew, em, r1, er1, fr1, lr1⟩ := flat_gap HDD.out.1 HDD.out.2.1 HDD.out.2.2
  have KG := Lib.hid (fun W => gap8_any W er1 er1 fr1 fr1)
  have q1 := fun W => cvr_some ew W
  have q2 := cvd_some ew
  obtain ⟨q3a, q4⟩ := f64op .mul em
  unfold wMil at q3a q4 lr1
  obtain ⟨rhs, hrhs⟩ : ∃ x, ml 4562254508917369340 (wdn dd) = x := ⟨_, rfl⟩
  rw [hrhs] at lr1
  have q3 : ∀ W, fres .mul .f64 4562254508917369340 (wdn dd) W = rhs := fun W => (q3a W).trans hrhs
  clear q3a
  have LR := Lib.hid lr1
  have hcel : ∀ i : Nat, i < 12 → w6.cell? ⟨g4, i, none⟩ = some (.float .f32 dd) := by
    intro i hi
    have := (H6.out.2.2.2.2.1.sl.cellAt i (by simpa using hi)).1
    rw [getD_tab _ hi, HFL.out (i % 4) (i / 4) (by omega) (by omega), Nat.zero_add] at this
    exact this
  have HCEL := Lib.hid hcel
  clear ew em er1 fr1 hrhs hcel lr1 HDD HFL
  generalize wdn dd = ddd at *
  go_loopw [16] (fun v16 wr => ∃ i : Nat, v16 = .int .i64 i ∧ i ≤ 12 ∧ wr = w6) (fun v16 _ => 12 - (intOf v16).toNat)
  case atStart => exact ⟨0, rfl, Nat.zero_le _, rfl⟩
  case round =>
    obtain ⟨i, rfl, hi, hwr⟩ := hrel
    have hwr := hwr.symm
    subst hwr
    by_cases hlt : i < 12
    · have hd1 := HCEL.out i hlt
      have hltI : (i : Int) < 12 := by omega
      go_wp2_with fail
      refine (KG.out _).mono ?_
      rintro e w7 ⟨⟨r, rfl, hr⟩, rfl⟩
      have hr : r = r1 := by rcases hr with h | h <;> exact h
      subst hr
      have lr1 := LR.out
      go_wp2_with fail
      go_roundw
      case rel => exact ⟨i + 1, by go_num, by omega, by first | trivial | rfl⟩
      case measure => simp [intOf]; omega
    · have hltI : ¬ (i : Int) < 12 := by omega
      clear q1 q2 q3 q4 KG LR HCEL
      go_wp2_with fail
      go_loopw [17] (fun v17 wr => ∃ i : Nat, v17 = .int .i64 i ∧ i ≤ k ∧ Below w6.heap.size w6 wr) (fun v17 _ => k - (intOf v17).toNat)
      case atStart => exact ⟨0, rfl, Nat.zero_le _, Below.refl _ _⟩
      case round =>
        obtain ⟨j, rfl, hj, hbr⟩ := hrel
        by_cases hlt2 : j < k
        · have hltJ : (j : Int) < (k : Int) := by omega
          have hvec := H6.out.2.2.2.2.2.below hbr
          have hjl : j < (ptsOf P 12).length := by rw [HK.out]; exact hlt2
          obtain ⟨e0, e1, e2⟩ := hvec.at_ j hjl
          obtain ⟨⟨X, Y, z⟩, hp⟩ : ∃ p, (ptsOf P 12)[j] = p := ⟨_, rfl⟩
          obtain ⟨i', hi', hPi⟩ := List.mem_filterMap.1 (show (X, Y, z) ∈ (List.range 12).filterMap P from by rw [← hp]; exact List.getElem_mem hjl)
          obtain ⟨pw, pq, ps, h, hHg, fz, fh, hz0, hz9, hwi⟩ := (HGD.out i' (X, Y, z) (List.mem_range.1 hi') hPi).ex
          rw [hp] at e0 e1 e2
          simp only at e0 e1 e2 hHg fz hz0 hz9 hwi
          obtain ⟨ez, eh, ea, em, s1, s2, es1, es2, fs1, fs2, ls1, ls2⟩ := high_gap fz fh hz0 hz9 hwi
          have KH := Lib.hid (fun W => heightAt_any W hHg)
          have KS := Lib.hid (fun W => gap8_any W es1 es2 fs1 fs2)
          have y1 := fun W => cvr_some ez W
          have y2 := cvd_some ez
          have y3 := fun W => cvr_some eh W
          have y4 := cvd_some eh
          obtain ⟨y5, y6⟩ := f64op .add ea
          obtain ⟨y7a, y8⟩ := f64op .mul em
          unfold wCen at y7a y8 ls1 ls2
          unfold wOne at *
          obtain ⟨rh, hrh⟩ : ∃ x, ml 4576918229304087675 (ad 4607182418800017408 (wdn z)) = x := ⟨_, rfl⟩
          rw [hrh] at ls1 ls2
          have y7 := fun W => (y7a W).trans hrh
          clear y7a hjl hp hi' hPi fz fh hz0 hz9 hwi ez eh ea em es1 es2 fs1 fs2 hHg hvec hrh
          generalize ad 4607182418800017408 (wdn z) = ads at *
          generalize wdn z = zz at *
          generalize wdn h = hh at *
          have LS := Lib.hid (And.intro ls1 ls2)
          clear ls1 ls2
          obtain ⟨bV, hbV⟩ : ∃ k, wr.heap.size = k := ⟨_, rfl⟩
          obtain ⟨V7, hV7⟩ : ∃ W, W = wr.alloc (.cells #[.float .f32 X, .float .f32 Y, .float .f32 z] 29) := ⟨_, rfl⟩
          have hal7 : Below wr.heap.size wr V7 := by rw [hV7]; exact (Below.refl _ _).alloc (Nat.le_refl _) _
          have hb67 : Below w6.heap.size w6 V7 := hbr.trans (hal7.mono hbr.size)
          have hxv : BoxN V7 bV #[.float .f32 X, .float .f32 Y, .float .f32 z] 29 := by rw [hV7, ← hbV]; exact BoxN.last wr _ _
          have hxp : BoxN V7 bP #[.float .f32 A, .float .f32 A', .float .f32 C] 40 := H6.out.2.1.below hb67
          have HV7 := Lib.hid hV7
          have HBV := Lib.hid hbV
          have HB67 := Lib.hid hb67
          have H7 := Lib.hid (And.intro hxv hxp)
          clear hV7 hbV hal7 hb67 hxv hxp hbr c0 c1 c2 n0 n1 n2
          go_upto_region 20 with fail
          rw [← HV7.out, HBV.out]
          clear e0 e1 e2 HGD
          have KHB := Lib.hid (fun W (hW : Below V7.heap.size V7 W) => callPB (KH.out W) hW)
          have KSB := Lib.hid (fun W (hW : Below V7.heap.size V7 W) => callPS (KS.out W) hW)
          have SW := Lib.hid (fun W (hW : Below V7.heap.size V7 W) => (show (W.cell? ⟨bV, 0, none⟩ = some (.float .f32 X) ∧ W.cell? ⟨bV, 1, none⟩ = some (.float .f32 Y) ∧ W.cell? ⟨bV, 2, none⟩ = some (.float .f32 z) ∧ W.cell? ⟨bP, 0, none⟩ = some (.float .f32 A) ∧ W.cell? ⟨bP, 1, none⟩ = some (.float .f32 A') ∧ W.cell? ⟨bP, 2, none⟩ = some (.float .f32 C)) from by
            obtain ⟨x0, x1, x2⟩ := three_c (H7.out.1.below hW)
            obtain ⟨m0, m1, m2⟩ := three_c (H7.out.2.below hW)
            exact ⟨x0, x1, x2, m0, m1, m2⟩))
          have hA1 : Below V7.heap.size V7 V7.drew := below_drewN (Below.refl _ _) 1
          clear KH KS
          go_cut [137] from 121 to 137 (fun v137 wx => v137 = .bool false ∧ Below V7.heap.size V7 wx)
          case first =>
            go_region_held3 (fun W => (W.cell? ⟨bV, 0, none⟩ = some (.float .f32 X) ∧ W.cell? ⟨bV, 1, none⟩ = some (.float .f32 Y) ∧ W.cell? ⟨bV, 2, none⟩ = some (.float .f32 z) ∧ W.cell? ⟨bP, 0, none⟩ = some (.float .f32 A) ∧ W.cell? ⟨bP, 1, none⟩ = some (.float .f32 A') ∧ W.cell? ⟨bP, 2, none⟩ = some (.float .f32 C)))
              (first | (with_reducible refine SW.out _ ?_; assumption) | exact SW.out _ (Below.refl _ _) | go_keep)
              (first
                | (go_at_call 24; (with_reducible refine (KHB.out _ ?_).mono ?_); assumption; rintro e wn0 ⟨rfl, hbn0⟩)
                | (go_at_call 23; (with_reducible refine (KSB.out _ ?_).mono ?_); assumption; rintro e wn1 ⟨⟨r, rfl, hr⟩, hbn1⟩; have lr : lt64 rh r = false := hr.elim (fun h => h ▸ LS.out.1) (fun h => h ▸ LS.out.2); clear hr))
            go_wp2_with fail
            go_meet
            exact ⟨rfl, hbn1⟩
          case rest =>
            obtain ⟨rfl, hbn1⟩ := hcut
            have hbf : Below w6.heap.size w6 wc := HB67.out.trans (hbn1.mono HB67.out.size)
            have HBF := Lib.hid hbf
            clear hbf hbn1 KHB KSB SW hA1 y1 y2 y3 y4 y5 y6 y7 y8
            go_wp2_with fail
            go_roundw
            case rel =>
              have hk12 := (cel_len P 12).2
              rw [HK.out] at hk12
              have hj9 : (j : Int) + 1 ≤ 12 := by omega
              have hj8 : wrap64 ((j : Int) + 1) = (j : Int) + 1 := by unfold wrap64; omega
              exact ⟨j + 1, by rw [hj8]; rfl, by omega, HBF.out⟩
            case measure =>
              have hk12 := (cel_len P 12).2
              rw [HK.out] at hk12
              have hj9 : (j : Int) + 1 ≤ 12 := by omega
              have hj8 : wrap64 ((j : Int) + 1) = (j : Int) + 1 := by unfold wrap64; omega
              rw [hj8]
              simp [intOf]; omega
        · have hltJ : ¬ (j : Int) < (k : Int) := by omega
          have hfin : Below w.heap.size w wr := H6.out.1.trans (hbr.mono H6.out.1.size)
          have HFIN := Lib.hid hfin
          clear hfin hbr
          go_wp2_with fail
          go_ret
          exact ⟨rfl, HFIN.out⟩

end Go.Proofs.Ytkhoifgljalfcaa
