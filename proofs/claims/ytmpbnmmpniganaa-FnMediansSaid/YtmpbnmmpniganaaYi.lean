/- The window of a map: what is handed on. -/
import Derived.Test.YtmpbnmmpniganaaMs
import Derived.Deep.CutRange
namespace Go.Proofs.Ytmpbnmmpniganaa
open Go.RowKit
set_option maxRecDepth 100000
set_option linter.unusedVariables false
set_option linter.unusedSimpArgs false

/-- Is a cell in the window? -/
def inW (wd x y r i : Nat) : Bool := decide (x ≤ i % wd + r) && decide (i % wd ≤ x + r) && decide (y ≤ i / wd + r) && decide (i / wd ≤ y + r)
def visL (wd x y r k : Nat) : List Nat := (List.range k).filter (inW wd x y r)
theorem visL_same {wd x y r k : Nat} (d : Nat) (h : ∀ i, k ≤ i → i < k + d → inW wd x y r i = false) : visL wd x y r (k + d) = visL wd x y r k := by
  induction d with
  | zero => rfl
  | succ d ih =>
    have ih := ih fun i h1 h2 => h i h1 (by omega)
    unfold visL at *
    rw [← Nat.add_assoc, List.range_succ, List.filter_append, ih, List.filter_cons, h (k + d) (by omega) (by omega)]
    simp
theorem visL_next {wd x y r k : Nat} (h : inW wd x y r k = true) : visL wd x y r (k + 1) = visL wd x y r k ++ [k] := by
  unfold visL
  rw [List.range_succ, List.filter_append, List.filter_cons, h]
  simp
theorem row_md {wd v u : Nat} (hu : u < wd) : (wd * v + u) % wd = u ∧ (wd * v + u) / wd = v := by
  rw [Nat.add_comm]; exact ⟨xy_mod hu, xy_div hu⟩
theorem inW_iff {wd x y r v u : Nat} (hu : u < wd) : inW wd x y r (wd * v + u) = true ↔ x ≤ u + r ∧ u ≤ x + r ∧ y ≤ v + r ∧ v ≤ y + r := by
  obtain ⟨e1, e2⟩ := row_md (v := v) hu
  unfold inW; rw [e1, e2]; simp [Bool.and_eq_true, and_assoc]
theorem inW_f {wd x y r v u : Nat} (hu : u < wd) (h : ¬ (x ≤ u + r ∧ u ≤ x + r ∧ y ≤ v + r ∧ v ≤ y + r)) : inW wd x y r (wd * v + u) = false := by
  cases e : inW wd x y r (wd * v + u)
  · rfl
  · exact absurd ((inW_iff hu).1 e) h
theorem row_split {wd i : Nat} (hw : 0 < wd) : ∃ v u, u < wd ∧ i = wd * v + u := ⟨i / wd, i % wd, Nat.mod_lt _ hw, (Nat.div_add_mod i wd).symm⟩
theorem row_lt {wd v v' u u' : Nat} (hu : u < wd) (hu' : u' < wd) (h : wd * v + u < wd * v' + u') : v < v' ∨ (v = v' ∧ u < u') := by
  rcases Nat.lt_trichotomy v v' with h1 | h1 | h1
  · exact .inl h1
  · subst h1; exact .inr ⟨rfl, by omega⟩
  · have := Nat.mul_le_mul_left wd h1
    rw [Nat.mul_succ] at this
    omega
theorem visL_zero {wd x y r : Nat} (hw : 0 < wd) : visL wd x y r (wd * (y - r)) = [] := by
  have := visL_same (wd := wd) (x := x) (y := y) (r := r) (k := 0) (wd * (y - r)) fun i h1 h2 => by
    obtain ⟨v, u, hu, rfl⟩ := row_split (i := i) hw
    have : v < y - r := by
      rcases Nat.lt_or_ge v (y - r) with h | h
      · exact h
      · have := Nat.mul_le_mul_left wd h; omega
    exact inW_f hu (by omega)
  rw [Nat.zero_add] at this
  rw [this]; rfl
theorem visL_left {wd x y r v : Nat} (hx : x < wd) : visL wd x y r (wd * v + (x - r)) = visL wd x y r (wd * v) := by
  refine visL_same _ fun i h1 h2 => ?_
  obtain ⟨u, rfl⟩ : ∃ u, i = wd * v + u := ⟨i - wd * v, by omega⟩
  exact inW_f (by omega) (by omega)
theorem visL_right {wd x y r v x2 : Nat} (hx2 : x2 ≤ wd) (h : x2 = wd ∨ x2 = x + r + 1) : visL wd x y r (wd * (v + 1)) = visL wd x y r (wd * v + x2) := by
  have e : wd * (v + 1) = wd * v + x2 + (wd - x2) := by rw [Nat.mul_succ]; omega
  rw [e]
  refine visL_same _ fun i h1 h2 => ?_
  obtain ⟨u, rfl⟩ : ∃ u, i = wd * v + u := ⟨i - wd * v, by omega⟩
  exact inW_f (by omega) (by omega)
theorem visL_end {wd x y r hi y2 : Nat} (hw : 0 < wd) (hy2 : y2 ≤ hi) (h : y2 = hi ∨ y2 = y + r + 1) : visL wd x y r (wd * hi) = visL wd x y r (wd * y2) := by
  have e : wd * hi = wd * y2 + wd * (hi - y2) := by rw [← Nat.mul_add]; congr 1; omega
  rw [e]
  refine visL_same _ fun i h1 h2 => ?_
  obtain ⟨v, u, hu, rfl⟩ := row_split (i := i) hw
  have : y2 ≤ v := by
    rcases Nat.lt_or_ge v y2 with h' | h'
    · have := Nat.mul_le_mul_left wd h'; rw [Nat.mul_succ] at this; omega
    · exact h'
  have : v < hi := by
    rw [← e] at h2
    rcases Nat.lt_or_ge v hi with h' | h'
    · exact h'
    · have := Nat.mul_le_mul_left wd h'; omega
  exact inW_f hu (by omega)

set_option maxHeartbeats 4000000 in
theorem window_any (W : World) (pb wd hi x y r : Nat) (fid : FuncId) (caps : Array Value) (J : List Nat → World → Prop) (hx : x < wd) (hy : y < hi) (hw : wd ≤ 24) (hh : hi ≤ 24) (hr : r ≤ 24)
    (hcall : ∀ args w, (callFunc fid args).run Try.prog w = .ok (.enter fid args) w)
    (hJ0 : J [] W) (hbox : ∀ l w, J l w → w.cell? ⟨pb, 0, none⟩ = some (.int .i64 wd) ∧ w.cell? ⟨pb, 1, none⟩ = some (.int .i64 hi)) (hdr : ∀ l w n, J l w → J l (w.drewN n))
    (hstep : ∀ (u v : Nat) (w : World), u < wd → v < hi → inW wd x y r (u + wd * v) = true → J (visL wd x y r (u + wd * v)) w → Calls Try.prog fid (#[.int .i64 u, .int .i64 v] ++ caps) w fun e w' => (∃ v, e = .returned v) ∧ J (visL wd x y r (u + wd * v) ++ [u + wd * v]) w') :
    Calls Try.prog 83 #[.pointer (some ⟨pb, 0, none⟩), .int .i64 x, .int .i64 y, .int .i64 r, .func (.func fid) #[] caps] W fun e w' => (∃ v, e = .returned v) ∧ J (visL wd x y r (wd * hi)) w' := by
  have HB := Lib.hid hbox
  have HD := Lib.hid hdr
  have HS := Lib.hid hstep
  have HJ := Lib.hid hJ0
  obtain ⟨y1, hy1⟩ : ∃ y1, y1 = y - r := ⟨_, rfl⟩
  obtain ⟨x1, hx1⟩ : ∃ x1, x1 = x - r := ⟨_, rfl⟩
  obtain ⟨y2, hy2⟩ : ∃ y2, y2 = min (y + r + 1) hi := ⟨_, rfl⟩
  obtain ⟨x2, hx2⟩ : ∃ x2, x2 = min (x + r + 1) wd := ⟨_, rfl⟩
  have HY := Lib.hid (And.intro hy1 (And.intro hx1 (And.intro hy2 hx2)))
  clear hbox hdr hstep hJ0 hy1 hx1 hy2 hx2
  go_enter Try.func83, Try.ntmps83
  go_upto_region 0 with fail
  go_cut [10] from 12 to 15 (fun v10 wx => v10 = .int .i64 y1 ∧ wx = W)
  case first =>
    go_wp2_with fail
    all_goals
      go_meet
      have hh := HY.out.1
      exact ⟨by congr 1; omega, rfl⟩
  case rest =>
    obtain ⟨rfl, rfl⟩ := hcut
    go_wp2_with fail
    go_loopw [10] (fun v10 wr => ∃ v : Nat, v10 = .int .i64 v ∧ y1 ≤ v ∧ v ≤ y2 ∧ J (visL wd x y r (wd * v)) wr) (fun v10 _ => y2 - (intOf v10).toNat)
    case atStart =>
      have hh := HY.out
      refine ⟨y1, rfl, Nat.le_refl _, by omega, ?_⟩
      rw [hh.1, visL_zero (by omega)]
      exact HJ.out
    case round =>
      obtain ⟨v, rfl, hv1, hv2, hJ⟩ := hrel
      obtain ⟨c0, c1⟩ := HB.out _ _ hJ
      have HJ1 := Lib.hid hJ
      clear hJ
      obtain ⟨wo, rfl⟩ : ∃ wo : World, wo = wr := ⟨_, rfl⟩
      obtain ⟨t1, ht1⟩ : ∃ t, decide (v < y2) = t := ⟨_, rfl⟩
      have HT1 := Lib.hid ht1
      clear ht1
      go_upto_region 1 with fail
      go_cut [26] from 16 to 49 (fun v26 wx => v26 = .bool t1 ∧ wx = wo)
      case first =>
        go_wp2_with fail
        all_goals
          go_meet
          have hh := HY.out
          refine ⟨congrArg Value.bool ?_, rfl⟩
          rw [← HT1.out, Bool.eq_iff_iff]
          simp only [decide_eq_true_eq]
          omega
      case rest =>
        obtain ⟨rfl, rfl⟩ := hcut
        cases t1
        · go_wp2
          go_end0
          refine ⟨⟨_, rfl⟩, ?_⟩
          have hh := HY.out
          have ht : ¬ v < y2 := of_decide_eq_false HT1.out
          have e : v = y2 := by omega
          rw [visL_end (y2 := y2) (by omega) (by omega) (by omega), ← e]
          exact HJ1.out
        · have ht : v < y2 := of_decide_eq_true HT1.out
          have hvhi : v < hi := by have := HY.out; omega
          obtain ⟨wo, rfl⟩ : ∃ wo : World, wo = wc := ⟨_, rfl⟩
          go_upto_region 3 with fail
          go_cut [11] from 16 to 49 (fun v11 wx => v11 = .int .i64 x1 ∧ wx = wo)
          case first =>
            go_wp2_with fail
            all_goals
              go_meet
              have hh := HY.out.2.1
              exact ⟨by congr 1; omega, rfl⟩
          case rest =>
            obtain ⟨rfl, rfl⟩ := hcut
            go_wp2_with fail
            go_loopw [11] (fun v11 wr => ∃ u : Nat, v11 = .int .i64 u ∧ x1 ≤ u ∧ u ≤ x2 ∧ J (visL wd x y r (wd * v + u)) wr) (fun v11 _ => x2 - (intOf v11).toNat)
            case atStart =>
              have hh := HY.out
              refine ⟨x1, rfl, Nat.le_refl _, by omega, ?_⟩
              rw [hh.2.1, visL_left hx]
              exact HJ1.out
            case round =>
              clear HJ1 c0 c1
              obtain ⟨u, rfl, hu1, hu2, hJ⟩ := hrel
              obtain ⟨c0, c1⟩ := HB.out _ _ hJ
              have HJ1 := Lib.hid hJ
              clear hJ
              obtain ⟨wo, rfl⟩ : ∃ wo : World, wo = wr := ⟨_, rfl⟩
              obtain ⟨t2, ht2⟩ : ∃ t, decide (u < x2) = t := ⟨_, rfl⟩
              have HT2 := Lib.hid ht2
              clear ht2
              go_upto_region 4 with fail
              go_cut [43] from 33 to 49 (fun v43 wx => v43 = .bool t2 ∧ wx = wo)
              case first =>
                go_wp2_with fail
                all_goals
                  go_meet
                  have hh := HY.out
                  refine ⟨congrArg Value.bool ?_, rfl⟩
                  rw [← HT2.out, Bool.eq_iff_iff]
                  simp only [decide_eq_true_eq]
                  omega
              case rest =>
                obtain ⟨rfl, rfl⟩ := hcut
                cases t2
                · go_wp2
                  go_roundw
                  case rel =>
                    have hh := HY.out
                    have ht : ¬ u < x2 := of_decide_eq_false HT2.out
                    have e : u = x2 := by omega
                    refine ⟨v + 1, by go_num, by omega, by omega, ?_⟩
                    rw [visL_right (x2 := x2) (by omega) (by omega), ← e]
                    exact HJ1.out
                  case measure => simp [intOf]; omega
                · have ht2 : u < x2 := of_decide_eq_true HT2.out
                  have huwd : u < wd := by have := HY.out; omega
                  have hin : inW wd x y r (wd * v + u) = true := by
                    have hh := HY.out
                    exact (inW_iff huwd).2 (by omega)
                  have K := HS.out u v _ huwd hvhi (by rw [Nat.add_comm]; exact hin) (by rw [Nat.add_comm]; exact HJ1.out)
                  have HK := Lib.hid K
                  have HIN := Lib.hid hin
                  clear K hin
                  go_wp2_with fail
                  refine HK.out.mono ?_
                  rintro e w2 ⟨⟨vv, rfl⟩, hJ2⟩
                  have HJ2 := Lib.hid hJ2
                  clear hJ2
                  go_wp2
                  go_roundw
                  case rel =>
                    refine ⟨u + 1, by go_num, by omega, by omega, ?_⟩
                    rw [← Nat.add_assoc, visL_next HIN.out, Nat.add_comm (wd * v) u]
                    exact HJ2.out
                  case measure => simp [intOf]; omega

end Go.Proofs.Ytmpbnmmpniganaa
