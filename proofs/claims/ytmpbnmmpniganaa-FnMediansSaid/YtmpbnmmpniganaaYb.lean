/- A stable sort of quarters: its comparison, its swaps, its rotations. -/
import Derived.Test.YtmpbnmmpniganaaYa
import Derived.Test.YtmpbnmmpniganaaMp
namespace Go.Proofs.Ytmpbnmmpniganaa
open Go.RowKit Go.Sort
set_option maxRecDepth 100000
set_option linter.unusedVariables false
set_option linter.unusedSimpArgs false

def eq2 (k : Int) : Value := .float .f32 (fq 2 k)
/-- Small quarters. -/
def QB (d : Array Int) : Prop := ∀ i : Nat, Int.natAbs (d[i]!) ≤ 1000
theorem QB.perm {d d' : Array Int} {a b : Nat} (h : QB d) (hb : b ≤ d.size) (hp : PermIn a b d d') : QB d' := by
  intro i
  by_cases hi : i < a ∨ b ≤ i
  · rw [hp.2.1 i hi]; exact h i
  · exact permIn_all d d' a b (fun x : Int => x.natAbs ≤ 1000) hb hp (fun i _ _ => h i) i (by omega) (by omega)
theorem drew_drew (w : World) (n m : Nat) : (w.drewN n).drewN m = w.drewN (n + m) := by simp [World.drewN, Nat.add_assoc]
theorem putRow_overG (enc : Int → Value) (w : World) (g m : Nat) (d d' : Array Int) (h : d'.size = d.size) : putRow enc ((putRow enc w g 0 d).drewN m) g 0 d' = (putRow enc w g 0 d').drewN m := by
  show Go.Sort.ahead (putRow enc (putRow enc w g 0 d) g 0 d') m = _
  rw [putRow_putRow enc w g 0 d d' h]; rfl
theorem putRow_over (w : World) (g m : Nat) (d d' : Array Int) (h : d'.size = d.size) : putRow eq2 ((putRow eq2 w g 0 d).drewN m) g 0 d' = (putRow eq2 w g 0 d').drewN m := putRow_overG eq2 w g m d d' h
theorem holds_row {w : World} {g : Nat} {d0 d : Array Int} (h : Holds eq2 w g 0 d0) (hs : d.size = d0.size) (m : Nat) : Holds eq2 ((putRow eq2 w g 0 d).drewN m) g 0 d := holds_putRow eq2 w g 0 d0 d h hs
theorem holds_at {w : World} {g : Nat} {d : Array Int} (h : Holds eq2 w g 0 d) (i : Nat) (hi : i < d.size) : w.cell? ⟨g, i, none⟩ = some (.float .f32 (fq 2 d[i]!)) ∧ w.frozen? ⟨g, i, none⟩ = false := by
  have := h i hi
  rw [Nat.zero_add] at this
  exact this
theorem swap_worldG (enc : Int → Value) (w : World) (g m : Nat) (d : Array Int) (i j : Nat) (hi : i < d.size) (hj : j < d.size) :
    ((((putRow enc w g 0 d).drewN m).setCell ⟨g, i, none⟩ (enc d[j]!)).setCell ⟨g, j, none⟩ (enc d[i]!)).drew = (putRow enc w g 0 (swp d i j)).drewN (m + 1) := by
  have := putRow_swp enc w g 0 d i j hi hj
  rw [Nat.zero_add, Nat.zero_add] at this
  rw [← this]
  rfl
theorem swap_row {w wr : World} {g m : Nat} {d : Array Int} {i j X Y : Nat} (hw : wr = (putRow eq2 w g 0 d).drewN m) (hi : i < d.size) (hj : j < d.size) (hX : fq 2 d[i]! = X) (hY : fq 2 d[j]! = Y) :
    ((wr.setCell ⟨g, i, none⟩ (.float .f32 Y)).setCell ⟨g, j, none⟩ (.float .f32 X)).drew = (putRow eq2 w g 0 (swp d i j)).drewN (m + 1) := by
  subst hw hX hY
  exact swap_worldG eq2 w g m d i j hi hj

theorem swap_world2G (enc : Int → Value) (w : World) (g m q : Nat) (d : Array Int) (i j : Nat) (hi : i < d.size) (hj : j < d.size) :
    ((((putRow enc w g 0 d).drewN m).drewN q).setCell ⟨g, i, none⟩ (enc d[j]!)).setCell ⟨g, j, none⟩ (enc d[i]!) = (putRow enc w g 0 (swp d i j)).drewN (m + q) := by
  have := putRow_swp enc w g 0 d i j hi hj
  rw [Nat.zero_add, Nat.zero_add] at this
  rw [← this, drew_drew]
  rfl
theorem swap_row2 {w wr : World} {g m q : Nat} {d : Array Int} {i j X Y : Nat} (hw : wr = (putRow eq2 w g 0 d).drewN m) (hi : i < d.size) (hj : j < d.size) (hX : fq 2 d[i]! = X) (hY : fq 2 d[j]! = Y) :
    ((wr.drewN q).setCell ⟨g, i, none⟩ (.float .f32 Y)).setCell ⟨g, j, none⟩ (.float .f32 X) = (putRow eq2 w g 0 (swp d i j)).drewN (m + q) := by
  subst hw hX hY
  exact swap_world2G eq2 w g m q d i j hi hj

theorem cisNaN_any (b : Nat) (w : World) (h : nan32 b = false) : Calls Try.prog 118 #[.float .f32 b] w fun e w' => e = .returned (.bool false) ∧ w = w' := by
  go_enter Try.func118, Try.ntmps118
  go_wp2
  go_ret
  exact ⟨rfl, rfl⟩
def cmpI (x y : Int) : Int := if x < y then -1 else if y < x then 1 else 0
theorem ccompare_q (x y : Int) (w : World) (hx : x.natAbs ≤ 1000) (hy : y.natAbs ≤ 1000) : Calls Try.prog 109 #[.float .f32 (fq 2 x), .float .f32 (fq 2 y)] w fun e w' => e = .returned (.int .i64 (cmpI x y)) ∧ w = w' := by
  have n1 := fq_nan (g := 2) (k := x) (by omega)
  have n2 := fq_nan (g := 2) (k := y) (by omega)
  have l1 := lt32_fq (g := 2) (a := x) (b := y) (by omega) (by omega)
  have l2 := lt32_fq (g := 2) (a := y) (b := x) (by omega) (by omega)
  generalize fq 2 x = u at *
  generalize fq 2 y = v at *
  unfold cmpI
  by_cases h1 : x < y
  · rw [if_pos h1]
    rw [decide_eq_true h1] at l1
    rw [decide_eq_false (by omega)] at l2
    go_enter Try.func109, Try.ntmps109
    go_wp2_with fail
    refine (cisNaN_any u _ n1).mono ?_
    rintro e w' ⟨rfl, rfl⟩
    go_wp2_with fail
    refine (cisNaN_any v _ n2).mono ?_
    rintro e w' ⟨rfl, rfl⟩
    go_wp2
    go_ret
    exact ⟨rfl, rfl⟩
  · rw [if_neg h1]
    rw [decide_eq_false h1] at l1
    by_cases h2 : y < x
    · rw [if_pos h2]
      rw [decide_eq_true h2] at l2
      go_enter Try.func109, Try.ntmps109
      go_wp2_with fail
      refine (cisNaN_any u _ n1).mono ?_
      rintro e w' ⟨rfl, rfl⟩
      go_wp2_with fail
      refine (cisNaN_any v _ n2).mono ?_
      rintro e w' ⟨rfl, rfl⟩
      go_wp2
      go_ret
      exact ⟨rfl, rfl⟩
    · rw [if_neg h2]
      rw [decide_eq_false h2] at l2
      go_enter Try.func109, Try.ntmps109
      go_wp2_with fail
      refine (cisNaN_any u _ n1).mono ?_
      rintro e w' ⟨rfl, rfl⟩
      go_wp2_with fail
      refine (cisNaN_any v _ n2).mono ?_
      rintro e w' ⟨rfl, rfl⟩
      go_wp2
      go_ret
      exact ⟨rfl, rfl⟩
theorem cmpF_q (x y : Int) (w : World) (hx : x.natAbs ≤ 1000) (hy : y.natAbs ≤ 1000) : Calls Try.prog 108 #[.float .f32 (fq 2 x), .float .f32 (fq 2 y)] w fun e w' => e = .returned (.int .i64 (cmpI x y)) ∧ w = w' := by
  have K := Lib.hid (ccompare_q x y w hx hy)
  generalize fq 2 x = u at *
  generalize fq 2 y = v at *
  go_enter Try.func108, Try.ntmps108
  go_wp2_with fail
  refine K.out.mono ?_
  rintro e w' ⟨rfl, rfl⟩
  go_wp2
  go_ret
  exact ⟨rfl, rfl⟩

set_option maxHeartbeats 1000000 in
theorem swapRange_q (w : World) (g n cap a b k : Nat) (fv : Value) (d : Array Int) (hH : Holds eq2 w g 0 d) (hs : d.size = n) (h1 : a + k ≤ b) (h2 : b + k ≤ n) (hn : n ≤ 64) :
    Calls Try.prog 129 #[.slice (some ⟨g, 0, none⟩) n cap, .int .i64 a, .int .i64 b, .int .i64 k, fv] w fun e w' => (∃ v, e = .returned v) ∧ ∃ q, w' = (putRow eq2 w g 0 (swR d a b k)).drewN q := by
  have st : w = (putRow eq2 w g 0 (swR d a b 0)).drewN 0 := (putRow_self eq2 w g 0 d hH).symm
  have ST := Lib.hid st
  have HH := Lib.hid hH
  have HS := Lib.hid hs
  clear st hH hs
  go_enter Try.func129, Try.ntmps129
  go_wp2
  go_loopw [10] (fun v10 wr => ∃ i q : Nat, v10 = .int .i64 i ∧ i ≤ k ∧ wr = (putRow eq2 w g 0 (swR d a b i)).drewN q) (fun v10 _ => k - (intOf v10).toNat)
  case atStart => exact ⟨0, 0, rfl, Nat.zero_le _, ST.out⟩
  case round =>
    obtain ⟨i, q, rfl, hi, hw⟩ := hrel
    by_cases hlt : i < k
    · have hz := swR_size d a b i
      have hh := holds_row (w := w) (g := g) (d0 := d) (d := swR d a b i) HH.out hz q
      rw [← hw] at hh
      obtain ⟨ca, fa⟩ := holds_at hh (a + i) (by rw [hz, HS.out]; omega)
      obtain ⟨cb, fb⟩ := holds_at hh (b + i) (by rw [hz, HS.out]; omega)
      obtain ⟨X, hX⟩ : ∃ X, fq 2 (swR d a b i)[a + i]! = X := ⟨_, rfl⟩
      obtain ⟨Y, hY⟩ : ∃ Y, fq 2 (swR d a b i)[b + i]! = Y := ⟨_, rfl⟩
      rw [hX] at ca
      rw [hY] at cb
      have HW := Lib.hid hw
      have HX := Lib.hid hX
      have HY := Lib.hid hY
      have e1 : ((a : Int) + (i : Int)).toNat = a + i := by omega
      have e2 : ((b : Int) + (i : Int)).toNat = b + i := by omega
      clear hw hX hY hh hz
      go_wp2
      go_region
      all_goals go_wp2
      go_roundw
      case rel => exact ⟨i + 1, q + 1, by go_num, by omega, swap_row HW.out (by rw [swR_size, HS.out]; omega) (by rw [swR_size, HS.out]; omega) HX.out HY.out⟩
      case measure => simp [intOf]; omega
    · have : i = k := by omega
      subst this
      have HW := Lib.hid hw
      clear hw
      go_wp2
      go_end0
      exact ⟨⟨_, rfl⟩, q, HW.out⟩

end Go.Proofs.Ytmpbnmmpniganaa
