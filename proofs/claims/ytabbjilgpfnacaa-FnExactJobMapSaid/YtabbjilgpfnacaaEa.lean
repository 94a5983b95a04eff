/- Volumes of two pictures, by words: the reference's l03Pair, l02At, l03Compare at any places of blocks. -/
import Derived.Test.YtabbjilgpfnacaaAj
import Derived.Test.YtabbjilgpfnacaaVl
import Derived.Deep.RegionHeld3
import Derived.Deep.CutRange
namespace Go.Proofs.Ytabbjilgpfnacaa
open Go.RowKit Ieee
set_option maxRecDepth 100000
set_option linter.unusedVariables false
set_option linter.unusedSimpArgs false

theorem SlF.leE {w : World} {s : Option Addr} {n c : Nat} {bs : List Nat} (h : SlF w (.slice s n c) bs) : bs.length = n ∧ n ≤ 9223372036854775807 := by
  obtain ⟨a, cap, e, h1, h2, -⟩ := h.1
  injection e with e1 e2 e3
  rw [List.length_map] at e2 h1
  omega

/-- The absolute value by a difference is that by the word. -/
theorem sub_zero_neg {z : Nat} (hz : z < 4294967296) (h : le32 z 0 = true) : floatBits .sub .f32 0 z = some (z % 2147483648) := by
  unfold le32 at h
  simp only [Bool.and_eq_true, Bool.not_eq_true', decide_eq_true_eq] at h
  obtain ⟨⟨h1, -⟩, h2⟩ := h
  have hr : z % 2147483648 ≤ 2139095040 := by unfold nan32 at h1; simpa using h1
  by_cases hi : z % 2147483648 = 2139095040
  · have : z = 4286578688 := by
      unfold sr32 at h2
      have e0 : (0 : Nat) / 2147483648 % 2 = 0 := by decide
      rw [e0] at h2
      split at h2 <;> simp at h2 <;> omega
    subst this
    decide +kernel
  · have hf : isFin single z := (fin32_iff z).2 (by unfold fin32; simp; omega)
    have hf0 : isFin single 0 := (fin32_iff 0).2 (by decide)
    have hsv0 : sv single 0 = 0 := by decide
    have hrg : rg single z = z % 2147483648 := by unfold rg; rw [sg_sw]
    have hsz : sv single z = -((unit single (z % 2147483648) : Nat) : Int) := by
      unfold sv
      rw [hrg]
      split
      · rfl
      · rename_i hs
        have hz0 : z % 2147483648 = 0 := by
          unfold sgn at hs
          rw [sg_sw] at hs
          unfold sr32 at h2
          have e0 : (0 : Nat) / 2147483648 % 2 = 0 := by decide
          rw [e0] at h2
          simp at hs
          split at h2 <;> simp at h2 <;> omega
        rw [hz0, unit_zero]; rfl
    show single.sub 0 z = _
    rw [sub_fin _ hf0 hf, hsv0, hsz]
    have e1 : (0 : Int) - -((unit single (z % 2147483648) : Nat) : Int) = ((unit single (z % 2147483648) : Nat) : Int) := by omega
    rw [e1, Int.natAbs_natCast]
    have e2 : (if ((unit single (z % 2147483648) : Nat) : Int) = 0 then sgn single 0 && !(sgn single z) else decide (((unit single (z % 2147483648) : Nat) : Int) < 0)) = false := by
      split
      · rfl
      · exact decide_eq_false (by omega)
    rw [e2, rnd_exact single (by decide) false (N := unit single (z % 2147483648)) (k := 0) (r := z % 2147483648) (by simp) (by rw [sg_inf]; exact hr)]
    unfold Format.word
    simp
/-- The absolute value of a word. -/
def abW (z : Nat) : Nat := fl (z % 2147483648)
theorem nan_abs (z : Nat) : nan32 (z % 2147483648) = nan32 z := by unfold nan32; rw [Nat.mod_mod]
theorem abW_fl (z : Nat) : abW (fl z) = abW z := by
  unfold abW
  cases h : nan32 z
  · rw [fl_eq h]
  · rw [fl_nan (b := z % 2147483648) (by rw [nan_abs]; exact h), fl_nan h]; rfl

theorem l03Size_w (b : Nat) (hb : b < 4294967296) (W : World) : Calls Try.prog 98 #[.float .f32 b] W fun e w' => ∃ r n, e = .returned (.float .f32 r) ∧ r < 4294967296 ∧ fl r = abW b ∧ w' = W.drewN n := by
  cases h : le32 b 0
  · go_enter Try.func98, Try.ntmps98
    go_wp2
    go_ret
    refine ⟨_, 0, rfl, hb, ?_, rfl⟩
    unfold abW
    cases hn : nan32 b
    · have : b < 2147483648 := by
        unfold le32 at h
        rw [hn] at h
        have e0 : nan32 0 = false := by decide
        have e1 : sr32 0 = 0 := by decide
        rw [e0, e1] at h
        simp at h
        unfold sr32 at h
        split at h <;> omega
      rw [Nat.mod_eq_of_lt this]
    · rw [fl_nan (b := b % 2147483648) (by rw [nan_abs]; exact hn), fl_nan hn]
  · have e := sub_zero_neg hb h
    go_enter Try.func98, Try.ntmps98
    go_wp2
    go_ret
    refine ⟨_, _, rfl, fres_lt _ _ _ _, ?_, rfl⟩
    rw [fres_some e]; rfl

/-- What is asked of two pictures and a number of disparities. -/
def pairD (p q : Tri) (dp : Int) : Bool := pairV p q && (decide (1 ≤ dp) && decide (dp ≤ 8))
theorem quiet_sameA {P : Program} {f : FuncId} {args : Array Value} {W : World} {n : Nat} {v : Value} (h : Calls P f args (W.drewN n) fun e w' => e = .returned v ∧ (W.drewN n) = w') : Calls P f args (W.drewN n) fun e w' => e = .returned v ∧ ∃ m, w' = W.drewN m :=
  h.mono fun e w' ⟨he, hm⟩ => ⟨he, n, hm.symm⟩

set_option maxHeartbeats 2000000 in
theorem l03Pair_gen (W : World) (p1 p2 o1 o2 : Nat) (p q : Tri) (dp : Int) (hp : p.at_ W p1 o1) (hq : q.at_ W p2 o2) (hl : p.l ≤ 9223372036854775807) (hl2 : q.l ≤ 9223372036854775807) :
    Calls Try.prog 60 #[.pointer (some ⟨p1, o1, none⟩), .pointer (some ⟨p2, o2, none⟩), .int .i64 dp] W fun e w' => e = .returned (.bool (pairD p q dp)) ∧ ∃ k, w' = W.drewN k := by
  have K1 := Lib.hid (fun n => quiet_drewA (W := W) (n := n) (l02Is_gen (W.drewN n) p1 o1 p.a p.b p.s p.l p.c hl hp.1 hp.2.1 hp.2.2))
  have K2 := Lib.hid (fun n => quiet_drewA (W := W) (n := n) (l02Is_gen (W.drewN n) p2 o2 q.a q.b q.s q.l q.c hl2 hq.1 hq.2.1 hq.2.2))
  have K3 := Lib.hid (fun n => quiet_sameA (W := W) (n := n) (s00In_any dp 1 8 (W.drewN n)))
  obtain ⟨c0, c1, -⟩ := hp
  obtain ⟨d0, d1, -⟩ := hq
  unfold pairD pairV Tri.ok
  cases v1 : vPic p.a p.b p.l
  case false =>
    rw [v1] at K1
    clear v1
    go_enter Try.func60, Try.ntmps60
    go_wp2_with fail
    go_quiet (first | with_reducible exact K1.out _ | with_reducible exact K2.out _ | with_reducible exact K3.out _)
    go_wp2_with fail
    go_ret
    exact ⟨rfl, _, rfl⟩
  case true =>
    obtain ⟨y1, y2, g1, g2, g3, g4, g5, g6, g7, g8⟩ := vPic_spec v1
    rw [v1] at K1
    clear v1
    generalize vPic q.a q.b q.l = v2 at *
    obtain ⟨x1, hx1⟩ : ∃ x, (p.a == q.a) = x := ⟨_, rfl⟩
    obtain ⟨x2, hx2⟩ : ∃ x, (p.b == q.b) = x := ⟨_, rfl⟩
    obtain ⟨x3, hx3⟩ : ∃ x, (decide (1 ≤ dp) && decide (dp ≤ 8)) = x := ⟨_, rfl⟩
    rw [hx1, hx2, hx3]
    rw [hx3] at K3
    have hdp : x3 = true → 1 ≤ dp ∧ dp ≤ 8 := by rintro rfl; simpa using hx3
    have HG := Lib.hid (And.intro g1 (And.intro g2 (And.intro g3 (And.intro g4 (And.intro g5 (And.intro g6 (And.intro g7 g8)))))))
    clear hx3 g1 g2 g3 g4 g5 g6 g7 g8 hl hl2
    cases v2
    case false =>
      clear hdp
      go_enter Try.func60, Try.ntmps60
      go_wp2_with fail
      go_quiet (first | with_reducible exact K1.out _ | with_reducible exact K2.out _ | with_reducible exact K3.out _)
      go_wp2_with fail
      go_ret
      exact ⟨rfl, _, rfl⟩
    case true =>
      cases x1
      case false =>
        clear hdp
        go_enter Try.func60, Try.ntmps60
        go_wp2_with fail
        go_quiet (first | with_reducible exact K1.out _ | with_reducible exact K2.out _ | with_reducible exact K3.out _)
        go_wp2_with fail
        go_ret
        exact ⟨rfl, _, rfl⟩
      case true =>
        cases x2
        case false =>
          clear hdp
          go_enter Try.func60, Try.ntmps60
          go_wp2_with fail
          go_quiet (first | with_reducible exact K1.out _ | with_reducible exact K2.out _ | with_reducible exact K3.out _)
          go_wp2_with fail
          go_ret
          exact ⟨rfl, _, rfl⟩
        case true =>
          cases x3
          case false =>
            clear hdp
            go_enter Try.func60, Try.ntmps60
            go_wp2_with fail
            go_quiet (first | with_reducible exact K1.out _ | with_reducible exact K2.out _ | with_reducible exact K3.out _)
            go_wp2_with fail
            go_ret
            exact ⟨rfl, _, rfl⟩
          case true =>
            obtain ⟨g1, g2, g3, g4, g5, g6, g7, g8⟩ := HG.out
            obtain ⟨h1, h2⟩ := hdp rfl
            have e5 : p.a * p.b ≤ 256 := by rw [g1, g2, ← Int.natCast_mul]; omega
            have e5' : 0 ≤ p.a * p.b := by rw [g1, g2, ← Int.natCast_mul]; omega
            have e6 : p.a * p.b * dp ≤ 2048 := Int.le_trans (Int.mul_le_mul_of_nonneg_left h2 e5') (by omega)
            have e6' : 0 ≤ p.a * p.b * dp := Int.mul_nonneg e5' (by omega)
            have w5 : IntKind.i64.wrap (p.a * p.b) = p.a * p.b := IntWalk.i64_in _ (by omega)
            have w6 : IntKind.i64.wrap (p.a * p.b * dp) = p.a * p.b * dp := IntWalk.i64_in _ (by omega)
            have d6 : decide (p.a * p.b * dp ≤ 2048) = true := decide_eq_true (by omega)
            clear g1 g2 g3 g4 g5 g6 g7 g8 hdp h1 h2
            go_enter Try.func60, Try.ntmps60
            go_wp2_with fail
            go_quiet (first | with_reducible exact K1.out _ | with_reducible exact K2.out _ | with_reducible exact K3.out _)
            go_wp2_with fail
            go_ret
            exact ⟨rfl, _, rfl⟩

end Go.Proofs.Ytabbjilgpfnacaa
