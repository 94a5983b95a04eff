/- The law FnAngles: its walk. -/
import Derived.Test.YtkhoifgljalfcaaLj
import Derived.Test.YtkhoifgljalfcaaDp
import Derived.Test.YtkhoifgljalfcaaLs
import Derived.Deep.Cut
import Derived.Deep.CutRange
namespace Go.Proofs.Ytkhoifgljalfcaa
open Go.RowKit Ieee
set_option maxRecDepth 100000
set_option linter.unusedVariables false
set_option linter.unusedSimpArgs false

/-- The square of a point's length. -/
theorem inner_word {Y X : Int} (hY : Y.natAbs ≤ 64) (hX : X.natAbs ≤ 64) : ∃ r, In single 141 r ((Y.natAbs * Y.natAbs + X.natAbs * X.natAbs : Nat) : Int) ((Y.natAbs * Y.natAbs + X.natAbs * X.natAbs : Nat) : Int) ∧
    ∀ W : World, Calls Try.prog 50 #[vecV (fq 4 X) (fq 4 Y) 0, vecV (fq 4 X) (fq 4 Y) 0] W fun e w' => e = .returned (.float .f32 r) ∧ Below W.heap.size W w' := by
  have hxx : X * X = ((X.natAbs * X.natAbs : Nat) : Int) := by rw [Int.natCast_mul, Int.natAbs_mul_self' X]
  have hyy : Y * Y = ((Y.natAbs * Y.natAbs : Nat) : Int) := by rw [Int.natCast_mul, Int.natAbs_mul_self' Y]
  have bx : X.natAbs * X.natAbs ≤ 4096 := Nat.mul_le_mul hX hX
  have by_ : Y.natAbs * Y.natAbs ≤ 4096 := Nat.mul_le_mul hY hY
  have z0 : ∀ x : Int, x * x = 0 → ¬ x < 0 ∧ ¬ x < 0 := fun x h => by
    rcases Int.mul_eq_zero.1 h with g | g <;> omega
  have m1 := fq_mul (g := 4) (h := 4) (by omega) (a := X) (b := X) (by omega) (by omega) (by rw [hxx, Int.natAbs_natCast]; omega) (z0 X)
  have m2 := fq_mul (g := 4) (h := 4) (by omega) (a := Y) (b := Y) (by omega) (by omega) (by rw [hyy, Int.natAbs_natCast]; omega) (z0 Y)
  rw [hxx] at m1
  rw [hyy] at m2
  have m3 : floatBits .mul .f32 0 0 = some 0 := by decide +kernel
  have a1 := fq_add (g := 4 + 4) (a := ((X.natAbs * X.natAbs : Nat) : Int)) (b := ((Y.natAbs * Y.natAbs : Nat) : Int)) (by rw [Int.natAbs_natCast]; omega) (by rw [Int.natAbs_natCast]; omega) (by omega)
  have a2 := fq_add (g := 4 + 4) (a := ((X.natAbs * X.natAbs : Nat) : Int) + ((Y.natAbs * Y.natAbs : Nat) : Int)) (b := 0) (by omega) (by omega) (by omega)
  rw [fq_zero, Int.add_zero] at a2
  refine ⟨_, ?_, fun W => inner_w W _ _ _ _ _ _ _ _ _ _ _ m1 m2 m3 a1 a2⟩
  generalize X.natAbs * X.natAbs = A at *
  generalize Y.natAbs * Y.natAbs = B at *
  have hb : ((A : Int) + (B : Int)).natAbs ≤ 16777216 := by omega
  have hv := vv_fq (g := 4 + 4) (k := (A : Int) + (B : Int)) hb
  have e : (((B + A : Nat) : Int)) = (A : Int) + (B : Int) := by omega
  rw [e]
  exact ⟨(fin32_iff _).2 (fq_fin hb), by show _ ≤ vv _; rw [hv]; exact Int.le_refl _, by show vv _ ≤ _; rw [hv]; exact Int.le_refl _⟩

theorem fin_nan32 {w : Nat} (h : isFin single w) : nan32 w = false := nan_of_fin32 ((fin32_iff w).1 h)
theorem half_bounds {a : Nat} (h : ∃ L H, In single 125 a L H ∧ -8388608 ≤ L ∧ H ≤ 8388608) : le32 3204448256 a = true ∧ lt32 1056964608 a = false := by
  obtain ⟨L, H, i, h1, h2⟩ := h
  have f1 : fin32 3204448256 = true := by decide
  have f2 : fin32 1056964608 = true := by decide
  have fa := (fin32_iff a).1 i.fin
  have v1 : vv 3204448256 = -8388608 * ((2 ^ 125 : Nat) : Int) := by decide +kernel
  have v2 : vv 1056964608 = 8388608 * ((2 ^ 125 : Nat) : Int) := by decide +kernel
  have hp := Int.le_of_lt (pow_pos_z 125)
  constructor
  · rw [le32_vv f1 fa, decide_eq_true_iff, v1]
    exact Int.le_trans (Int.mul_le_mul_of_nonneg_right h1 hp) i.lo
  · rw [lt32_vv f2 fa, decide_eq_false_iff_not, v2]
    exact Int.not_lt.2 (Int.le_trans i.hi (Int.mul_le_mul_of_nonneg_right h2 hp))
theorem neg_neg32 {a : Nat} (h : a < 4294967296) : Op.negFloat .f32 (neg_ single a) = a := by
  have h2 : neg_ single a < 4294967296 := single.word_lt _ (rg_lt single a)
  rw [neg32_is h2]
  unfold neg_
  rw [sgn_word single _ (rg_lt single a), rg_word single _ (rg_lt single a), Bool.not_not]
  exact word32 h

/-- The angle of a point in sixteenths, and of its mirror: what the law asks. -/
structure LawP (Y X : Int) (a b lw : Nat) : Prop where
  ang : ∀ w : World, Calls Try.prog 9 #[.float .f32 (fq 4 Y), .float .f32 (fq 4 X)] w fun e w' => e = .returned (.float .f32 a) ∧ Below w.heap.size w w'
  ang' : ∀ w : World, Calls Try.prog 9 #[.float .f32 (Op.negFloat .f32 (fq 4 Y)), .float .f32 (fq 4 X)] w fun e w' => e = .returned (.float .f32 b) ∧ Below w.heap.size w w'
  long : ∀ w : World, Calls Try.prog 10 #[vecV (fq 4 X) (fq 4 Y) 0] w fun e w' => e = .returned (.float .f32 lw) ∧ Below w.heap.size w w'
  wide : floatToFloatBits .f32 lw .f64 = some (wdn lw)
  bnd : le32 3204448256 a = true ∧ lt32 1056964608 a = false
  s : SinP a lw (Y * (p36 : Int))
  q : ∃ A, floatBits .add .f32 a 1048576000 = some A ∧ SinP A lw (X * (p36 : Int))
  neg : Y ≠ 0 → Op.negFloat .f32 b = a
theorem sg_is (K : Int) : sgZ (decide (K < 0)) (K.natAbs * p36) = K * (p36 : Int) := by
  unfold sgZ
  by_cases h : K < 0
  · rw [decide_eq_true h]; simp only; rw [Int.natCast_mul]
    have : (K.natAbs : Int) = -K := by omega
    rw [this, Int.neg_mul, Int.neg_neg]
  · rw [decide_eq_false h]; simp only; rw [Int.natCast_mul]
    have : (K.natAbs : Int) = K := by omega
    rw [this]
theorem lawP_of {Y X : Int} (hY : Y.natAbs ≤ 64) (hX : X.natAbs ≤ 64) (h0 : ¬ (Y = 0 ∧ X = 0)) : ∃ a b lw, LawP Y X a b lw := by
  obtain ⟨r, ir, KI⟩ := inner_word hY hX
  have hpt := all_pnt hY hX (by omega)
  have hgt := aw_lt hY hX
  obtain ⟨sm, hsm⟩ : ∃ z, z = (if Nat.blt X.natAbs Y.natAbs then aw X.natAbs else aw Y.natAbs) := ⟨_, rfl⟩
  obtain ⟨bg, hbg⟩ : ∃ z, z = (if Nat.blt X.natAbs Y.natAbs then aw Y.natAbs else aw X.natAbs) := ⟨_, rfl⟩
  have e : Nat.blt X.natAbs Y.natAbs = true ↔ X.natAbs < Y.natAbs := by unfold Nat.blt; exact ⟨Nat.le_of_ble_eq_true, Nat.ble_eq_true_of_le⟩
  have is : I64 sm ⟨min Y.natAbs X.natAbs * p36, min Y.natAbs X.natAbs * p36⟩ := by
    rw [hsm]
    by_cases g : X.natAbs < Y.natAbs
    · rw [if_pos (e.2 g), Nat.min_eq_right (Nat.le_of_lt g)]; exact aw_iv hX
    · rw [if_neg (fun h => g (e.1 h)), Nat.min_eq_left (by omega)]; exact aw_iv hY
  have ig : I64 bg ⟨max Y.natAbs X.natAbs * p36, max Y.natAbs X.natAbs * p36⟩ := by
    rw [hbg]
    by_cases g : X.natAbs < Y.natAbs
    · rw [if_pos (e.2 g), Nat.max_eq_left (Nat.le_of_lt g)]; exact aw_iv hY
    · rw [if_neg (fun h => g (e.1 h)), Nat.max_eq_right (by omega)]; exact aw_iv hX
  obtain ⟨lw, F⟩ := pnt_ok hpt is ig ir
  have yX := yw_fq hX
  obtain ⟨ex, lx, ax, _⟩ := yX.wide hX
  obtain ⟨xn, hxn⟩ : ∃ b, decide (X < 0) = b := ⟨_, rfl⟩
  have hlt : a2W sm bg (Nat.blt X.natAbs Y.natAbs) xn < 18446744073709551616 := by
    have hi := (F.pos xn).fin
    unfold a2W
    cases xn
    · simp only [Bool.false_eq_true, if_false]
      unfold a1W
      cases hg : Nat.blt X.natAbs Y.natAbs
      · simp only [Bool.false_eq_true, if_false]
        have h6 := F.ang.e6
        exact Ieee.Format.div_lt double h6
      · simp only [if_true]
        exact Ieee.Format.sub_lt double (F.ang.e7 hg)
    · simp only [if_true]
      exact Ieee.Format.sub_lt double F.e8
  obtain ⟨c, hc⟩ : ∃ c, a2W sm bg (Nat.blt X.natAbs Y.natAbs) xn = c := ⟨_, rfl⟩
  have hE := F.ang
  rw [hsm, hbg] at hE
  have h8 := F.e8
  rw [hsm, hbg] at h8
  have hcc := hc
  rw [hsm, hbg] at hcc
  have key : ∀ (y : Nat) (K : Int), YW y K → K.natAbs = Y.natAbs → ∀ w : World, Calls Try.prog 9 #[.float .f32 y, .float .f32 (fq 4 X)] w fun e w' => e = .returned (.float .f32 (nr (if decide (K < 0) then neg_ double c else c))) ∧ Below w.heap.size w w' := by
    intro y K hy hK w
    obtain ⟨ey, ly, ay, _⟩ := hy.wide (by omega)
    rw [hK] at ay
    have hn := (F.pt xn (decide (K < 0))).n
    rw [hc] at hn hlt
    refine angle_any w y (fq 4 X) (wdn y) (wdn (fq 4 X)) (aw Y.natAbs) (aw X.natAbs) _ (Nat.blt X.natAbs Y.natAbs) xn (decide (K < 0)) hy.lt yX.lt ((fin32_iff _).1 hy.fin) ((fin32_iff _).1 yX.fin) ey ex ly lx ay ax ?_ hgt (by rw [yX.neg0, hxn]) hy.neg0 hE (fun _ => h8) ?_
    · rw [yX.zero, hy.zero]
      by_cases hx0 : X = 0
      · have : ¬ K = 0 := by omega
        rw [decide_eq_false this, Bool.and_false]
      · rw [decide_eq_false hx0, Bool.false_and]
    · rw [hcc, neg64_is hlt]; exact hn
  have hP := F.pt xn (decide (Y < 0))
  rw [hc] at hP
  have e1 : sgZ (decide (Y < 0)) (Y.natAbs * p36) = Y * (p36 : Int) := sg_is Y
  have e2 : sgZ xn (X.natAbs * p36) = X * (p36 : Int) := by rw [← hxn]; exact sg_is X
  rw [e1, e2] at hP
  have hpos := F.pos xn
  rw [hc] at hpos
  have hnn := narrow_neg hpos
  have hnl : nr c < 4294967296 := (in_narrow (k := 125) (s := 16) rfl (by omega) hpos (L := 0) (H := 16777216) (by simp) (by unfold one40; decide) (by decide) (by decide)).2.2
  have hv0 : (fq 4 X) < 4294967296 := yX.lt
  refine ⟨_, _, lw, key _ Y (yw_fq hY) rfl, key _ (-Y) (yw_fq hY).neg (by omega), fun w => long_any w ⟨F.root.ex, F.root.lt, fin_nan32 F.root.fin⟩ KI ⟨_, _, _, rfl⟩, F.wide, half_bounds hP.a, hP.s, hP.q, ?_⟩
  intro hY0
  by_cases hneg : Y < 0
  · rw [decide_eq_true hneg, decide_eq_false (show ¬ -Y < 0 by omega)]
    simp only [Bool.false_eq_true, if_false, if_true]
    rw [hnn, neg32_is hnl]
  · rw [decide_eq_false hneg, decide_eq_true (show -Y < 0 by omega)]
    simp only [Bool.false_eq_true, if_false, if_true]
    rw [hnn, neg_neg32 hnl]

theorem angle_zero (w : World) (y x : Nat) (hy : y < 4294967296) (hx : x < 4294967296) (fy : fin32 y = true) (fx : fin32 x = true) (zy : eq32 y 0 = true) (zx : eq32 x 0 = true) :
    Calls Try.prog 9 #[.float .f32 y, .float .f32 x] w fun e w' => e = .returned (.float .f32 0) ∧ Below w.heap.size w w' := by
  obtain ⟨W0, hW0⟩ : ∃ W, W = w.alloc (.cells #[.float .f32 y, .float .f32 x] 24) := ⟨_, rfl⟩
  have hb0 : Below w.heap.size w W0 := by rw [hW0]; exact (Below.refl _ _).alloc (Nat.le_refl _) _
  have hs0 : SlF W0 (.slice (some ⟨w.heap.size, 0, none⟩) 2 2) [y, x] := by
    rw [hW0]
    refine ⟨⟨_, 2, rfl, by simp, by simp, .inr ⟨_, 0, rfl, by simp, ?_⟩⟩, ?_⟩
    · intro i hi
      have hbx := BoxN.last w #[.float .f32 y, .float .f32 x] 24
      match i, hi with
      | 0, _ => exact hbx.cell 0
      | 1, _ => exact hbx.cell 1
    · intro z hz
      simp at hz
      rcases hz with rfl | rfl <;> assumption
  have KF := Lib.hid (finite_yes W0 _ 0 2 2 [y, x] hs0 (by intro z hz; simp at hz; rcases hz with rfl | rfl <;> assumption))
  have HB0 := Lib.hid hb0
  have HW0 := Lib.hid hW0
  clear hb0 hs0 hW0 fy fx hy hx
  go_enter Try.func9, Try.ntmps9
  go_wp2_with fail
  rw [← HW0.out]
  refine KF.out.mono ?_
  rintro e w1 ⟨rfl, q, hw1⟩
  have HW1 := Lib.hid (show Below w.heap.size w w1 from by rw [hw1]; exact below_drewN HB0.out q)
  clear hw1
  go_wp2_with fail
  go_ret
  exact ⟨rfl, HW1.out⟩

theorem at_word (w : World) (a : Option Addr) (l c : Nat) (i : Nat) (hi1 : i ≤ 1) (h : BytesIn w a l) :
    Calls Try.prog 8 #[.slice a l c, .int .i64 i, .int .i64 129] w fun e w' => (∃ n : Nat, e = .returned (.int .i64 n) ∧ n ≤ 128) ∧ w = w' := by
  refine (b10At_any w a l c i 129 (by omega) (by omega) (by omega) h).mono ?_
  rintro e w' ⟨z, rfl, h0, h1, rfl⟩
  obtain ⟨n, rfl⟩ := Int.eq_ofNat_of_zero_le h0
  exact ⟨⟨n, rfl, by omega⟩, rfl⟩

set_option maxHeartbeats 4000000 in
theorem fnAngles_walk (w : World) (a0 a1 : Option Addr) (l0 c0 l1 c1 : Nat) (z0 z1 : List Int)
    (r0 : (a0 = none ∧ l0 = 0 ∧ c0 = 0 ∧ z0 = []) ∨ ∃ x, a0 = some x ∧ l0 ≤ c0 ∧ c0 ≤ maxLen ∧ z0.length = c0 ∧ (∀ i, i < z0.length → w.cell? (x.add i) = some (.int .u8 (z0.getD i 0))) ∧ ∀ n ∈ z0, (Lit.int .u8 n).wf = true)
    (r1 : (a1 = none ∧ l1 = 0 ∧ c1 = 0 ∧ z1 = []) ∨ ∃ x, a1 = some x ∧ l1 ≤ c1 ∧ c1 ≤ maxLen ∧ z1.length = c1 ∧ (∀ i, i < z1.length → w.cell? (x.add i) = some (.int .u8 (z1.getD i 0))) ∧ ∀ n ∈ z1, (Lit.int .u8 n).wf = true) :
    Calls Try.prog 3 #[.slice a0 l0 c0, .slice a1 l1 c1] w fun e w' => e = .returned (.bool true) ∧ Below w.heap.size w w' := by
  by_cases hl : l0 ≤ 1048576 ∧ l1 ≤ 1048576
  case neg =>
    have m0 := len_of_row r0
    have m1 := len_of_row r1
    clear r0 r1
    go_enter Try.func3, Try.ntmps3
    go_wp2_with fail
    refine (b10Long_yes _ _ _ _ _ _ _ m0 m1 hl).mono ?_
    rintro e w' ⟨rfl, rfl⟩
    go_wp2_with fail
    go_ret
    exact ⟨rfl, Below.refl _ _⟩
  obtain ⟨h0, h1⟩ := hl
  have HB0 := Lib.hid (bytesIn_of_row r0 h0)
  have HB1 := Lib.hid (bytesIn_of_row r1 h1)
  clear r0 r1
  go_enter Try.func3, Try.ntmps3
  go_wp2_with fail
  refine (b10Long_no _ _ _ _ _ _ _ h0 h1).mono ?_
  rintro e w' ⟨rfl, rfl⟩
  go_wp2_with fail
  refine (at_word w a0 l0 c0 0 (by omega) HB0.out).mono ?_
  rintro e w' ⟨⟨nx, rfl, hnx⟩, rfl⟩
  have hX : ((nx : Int) - 64).natAbs ≤ 64 := by omega
  have qx := quo16 ⟨nx, by omega⟩
  simp only at qx
  have ox := fq_ofInt (n := (nx : Int) - 64) (by omega)
  obtain ⟨X, hXe⟩ : ∃ X, (nx : Int) - 64 = X := ⟨_, rfl⟩
  obtain ⟨xw, hxw⟩ : ∃ x, fq 4 X = x := ⟨_, rfl⟩
  rw [hXe] at qx ox hX
  rw [hxw] at qx
  obtain ⟨x0, hx0⟩ : ∃ x, fq 0 X = x := ⟨_, rfl⟩
  rw [hx0] at qx ox
  have gx := fres_some qx
  have gx2 := fdr_some qx
  have hd0 : ∀ W : World, W.drewN 0 = W := fun _ => rfl
  clear qx hx0
  have hXb : -64 ≤ X ∧ X ≤ 64 := by omega
  have HXB := Lib.hid hXb
  clear hXb
  go_wp2_with fail
  refine (at_word w a0 l0 c0 1 (by omega) HB0.out).mono ?_
  rintro e w' ⟨⟨ny, rfl, hny⟩, rfl⟩
  have hY : ((ny : Int) - 64).natAbs ≤ 64 := by omega
  have qy := quo16 ⟨ny, by omega⟩
  simp only at qy
  have oy := fq_ofInt (n := (ny : Int) - 64) (by omega)
  obtain ⟨Y, hYe⟩ : ∃ Y, (ny : Int) - 64 = Y := ⟨_, rfl⟩
  obtain ⟨yw, hyw⟩ : ∃ x, fq 4 Y = x := ⟨_, rfl⟩
  rw [hYe] at qy oy hY
  rw [hyw] at qy
  obtain ⟨y0, hy0⟩ : ∃ x, fq 0 Y = x := ⟨_, rfl⟩
  rw [hy0] at qy oy
  have gy := fres_some qy
  have gy2 := fdr_some qy
  clear qy hy0
  obtain ⟨yn, hyn⟩ : ∃ z, Op.negFloat .f32 yw = z := ⟨_, rfl⟩
  have YX := yw_fq hX
  have YY := yw_fq hY
  rw [hxw] at YX
  rw [hyw] at YY
  have YN := YY.neg
  rw [hyn] at YN
  by_cases hz : Y = 0 ∧ X = 0
  · obtain ⟨ey, ex⟩ := hz
    have zx : eq32 xw 0 = true := by rw [YX.zero, ex]; rfl
    have zy : eq32 yw 0 = true := by rw [YY.zero, ey]; rfl
    have zn : eq32 yn 0 = true := by rw [YN.zero, ey]; rfl
    have K1 := Lib.hid (fun W => angle_zero W yw xw YY.lt YX.lt ((fin32_iff _).1 YY.fin) ((fin32_iff _).1 YX.fin) zy zx)
    have K2 := Lib.hid (fun W => angle_zero W yn xw YN.lt YX.lt ((fin32_iff _).1 YN.fin) ((fin32_iff _).1 YX.fin) zn zx)
    clear YX YY YN hX hY hxw hyw ey ex zn
    go_wp2_with fail
    refine (K1.out _).mono ?_
    rintro e w1 ⟨rfl, hb1⟩
    have H1 := Lib.hid hb1
    clear hb1
    go_wp2_with fail
    refine (K2.out _).mono ?_
    rintro e w2 ⟨rfl, hb2⟩
    have H2 := Lib.hid (H1.out.trans (hb2.mono H1.out.size))
    clear hb2
    go_wp2_with fail
    go_ret
    exact ⟨rfl, H2.out⟩
  obtain ⟨a, b, lw, P⟩ := lawP_of hY hX hz
  have KA := P.ang
  have KB := P.ang'
  have KL := P.long
  rw [hxw, hyw] at KA KB KL
  rw [hyn] at KB
  unfold vecV vecC at KL
  have KA := Lib.hid KA
  have KB := Lib.hid KB
  have KL := Lib.hid KL
  have zx := YX.zero
  have zy := YY.zero
  obtain ⟨bx, hbx⟩ : ∃ z, decide (X = 0) = z := ⟨_, rfl⟩
  obtain ⟨by_, hby⟩ : ∃ z, decide (Y = 0) = z := ⟨_, rfl⟩
  rw [hbx] at zx
  rw [hby] at zy
  have hbb : (bx && by_) = false := by
    rw [← hbx, ← hby]
    by_cases h : X = 0
    · have : ¬ Y = 0 := fun h2 => hz ⟨h2, h⟩
      rw [decide_eq_false this, Bool.and_false]
    · rw [decide_eq_false h, Bool.false_and]
  have HBY := Lib.hid hby
  have HBX := Lib.hid hbx
  clear hbx hby
  go_wp2_with fail
  refine (KA.out _).mono ?_
  rintro e w1 ⟨rfl, hb1⟩
  have H1 := Lib.hid hb1
  clear hb1
  go_wp2_with fail
  refine (KB.out _).mono ?_
  rintro e w2 ⟨rfl, hb2⟩
  have H2 := Lib.hid (H1.out.trans (hb2.mono H1.out.size))
  clear hb2
  have PP := Lib.hid P
  clear P
  have YYX := Lib.hid YX
  have YYY := Lib.hid YY
  clear YX YY YN hz
  go_upto_region 7 with fail
  go_cut [39] from 34 to 39 (fun v39 wx => v39 = .bool false ∧ wx = w2)
  case first =>
    cases bx
    · go_wp2_with fail
      go_meet
      exact ⟨rfl, rfl⟩
    · cases by_
      · go_wp2_with fail
        go_meet
        exact ⟨rfl, rfl⟩
      · exact absurd hbb (by decide)
  case rest =>
  obtain ⟨rfl, hwc⟩ := hcut
  subst hwc
  clear hbb zx KA KB H1
  go_wp2_with fail
  refine (KL.out _).mono ?_
  rintro e w3 ⟨rfl, hb3⟩
  have H3 := Lib.hid (H2.out.trans (hb3.mono H2.out.size))
  clear hb3 KL
  have S := PP.out.s
  have KS := Lib.hid (fun W => sine_any W S)
  obtain ⟨pr, hpr, npr⟩ := S.pr
  have NPR := Lib.hid npr
  have c1 := fun W => cvr_some S.nw W
  have c2 := cvd_some S.nw
  have c3 := fun W => cvr_some PP.out.wide W
  have c4 := cvd_some PP.out.wide
  obtain ⟨m1, m2⟩ := b64 .mul hpr
  generalize nr (sgW (wdn a)) = s1 at *
  generalize wdn s1 = s2 at *
  obtain ⟨lv, hlv⟩ : ∃ z, wdn lw = z := ⟨_, rfl⟩
  rw [hlv] at c3 m1 m2
  have HLV := Lib.hid hlv
  clear S hpr npr hlv
  go_wp2_with fail
  refine (KS.out _).mono ?_
  rintro e w4 ⟨rfl, n4, hw4⟩
  have H4 := Lib.hid (show Below w.heap.size w w4 from by rw [hw4]; exact below_drewN H3.out n4)
  clear hw4 KS
  obtain ⟨A, hA, S⟩ := PP.out.q
  obtain ⟨q1, q2⟩ := (⟨fun W => fres_some hA W, fdr_some hA⟩ : (∀ W, fres .add .f32 a 1048576000 W = A) ∧ fdr .add .f32 a 1048576000 = 0)
  have KS := Lib.hid (fun W => sine_any W S)
  obtain ⟨qr, hqr, nqr⟩ := S.pr
  have NQR := Lib.hid nqr
  have d1 := fun W => cvr_some S.nw W
  have d2 := cvd_some S.nw
  rw [HLV.out] at hqr
  obtain ⟨m3, m4⟩ := b64 .mul hqr
  generalize nr (sgW (wdn A)) = t1 at *
  generalize wdn t1 = t2 at *
  clear S hqr nqr hA
  go_upto_region 11 with fail
  clear c1 c2 m1 m2
  go_wp2_with fail
  refine (KS.out _).mono ?_
  rintro e w5 ⟨rfl, n5, hw5⟩
  have H5 := Lib.hid (show Below w.heap.size w w5 from by rw [hw5]; exact below_drewN H4.out n5)
  clear hw5 KS
  obtain ⟨ey, ly, _, iy⟩ := YYY.out.wide hY
  obtain ⟨ex, lx, _, ix⟩ := YYX.out.wide hX
  have KG1 := Lib.hid (fun W => gap_any W NPR.out iy)
  have KG2 := Lib.hid (fun W => gap_any W NQR.out ix)
  have e1 := fun W => cvr_some ey W
  have e2 := cvd_some ey
  have e3 := fun W => cvr_some ex W
  have e4 := cvd_some ex
  generalize wdn yw = yd at *
  generalize wdn xw = xd at *
  obtain ⟨b1, b2⟩ := PP.out.bnd
  have hnan : nan32 a = false := fin_nan32 PP.out.s.fin
  have hneg : by_ = false → Op.negFloat .f32 b = a := fun h => PP.out.neg (by rw [← HBY.out] at h; exact of_decide_eq_false h)
  have HNEG := Lib.hid hneg
  have HHY := Lib.hid (And.intro hX hY)
  clear ey ly iy ex lx ix hneg NPR NQR PP YYY YYX hX hY hXe hYe
  go_upto_region 12 with fail
  clear d1 d2 m3 m4 c3 c4 q1 q2
  go_cut [89] from 59 to 89 (fun v89 wx => v89 = .bool false ∧ Below w.heap.size w wx)
  case first =>
    go_wp2_with fail
    refine (KG1.out _).mono ?_
    rintro e w6 ⟨⟨r1, rfl, hr1⟩, rfl⟩
    go_wp2_with fail
    refine (KG2.out _).mono ?_
    rintro e w6 ⟨⟨r2, rfl, hr2⟩, rfl⟩
    cases by_
    · have hn := HNEG.out rfl
      go_wp2_with fail
      go_meet
      exact ⟨rfl, H5.out⟩
    · go_wp2_with fail
      go_meet
      exact ⟨rfl, H5.out⟩
  case rest =>
  obtain ⟨rfl, hbc⟩ := hcut
  have H6 := Lib.hid hbc
  have KN := Lib.hid (b10Number_any wc a1 l1 c1 (HB1.out.below hbc))
  clear hbc KG1 KG2 e1 e2 e3 e4 b1 b2 hnan HNEG
  go_wp2_with fail
  refine KN.out.mono ?_
  rintro e w7 ⟨z, rfl, hz, hb7⟩
  have H7 := Lib.hid (H6.out.trans (hb7.mono H6.out.size))
  obtain ⟨f1, f2⟩ := flush_law hz
  have hfl := flW_lt hz
  have K1 := Lib.hid (fun W => flush_any W z hz)
  have K2 := Lib.hid (fun W => isSub_any W (flW z) hfl)
  rw [f1] at K2
  have K3 := Lib.hid (fun W => isSub_any W z hz)
  have K4 := Lib.hid (fun W => sSame_any z (flW z) W hz hfl)
  have F2 := Lib.hid f2
  clear hb7 KN hz hfl f1 f2
  generalize flW z = wz at *
  generalize subN z = bz at *
  generalize sm z wz = bs at *
  go_wp2_with fail
  refine (K1.out _).mono ?_
  rintro e w8 ⟨rfl, rfl⟩
  go_wp2_with fail
  refine (K2.out _).mono ?_
  rintro e w8 ⟨rfl, rfl⟩
  go_wp2_with fail
  refine (K3.out _).mono ?_
  rintro e w8 ⟨rfl, rfl⟩
  go_wp2_with fail
  refine (K4.out _).mono ?_
  rintro e w8 ⟨rfl, rfl⟩
  go_wp2_with fail
  go_ret
  refine ⟨?_, H7.out⟩
  have hf := F2.out
  revert hf
  cases bz <;> cases bs <;> simp

end Go.Proofs.Ytkhoifgljalfcaa
