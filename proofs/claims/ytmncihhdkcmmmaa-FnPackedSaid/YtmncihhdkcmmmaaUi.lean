/- PackMap: the walk. -/
import Derived.Test.YtmncihhdkcmmmaaUc
import Derived.Test.YtmncihhdkcmmmaaUa
import Derived.Test.YtmncihhdkcmmmaaMp
import Derived.Deep.RegionHeld3
import Derived.StillTactics
import Derived.Deep.CutRange
namespace Go.Proofs.Ytmncihhdkcmmmaa
open Go.RowKit
set_option maxRecDepth 100000
set_option linter.unusedVariables false
set_option linter.unusedSimpArgs false

@[go_sem] theorem conv32_i64u (b : Nat) (n : Int) (w : World) (h : floatToIntVal .f32 b .i64 = some n) : (convert 74 2 (.float .f32 b)).run Try.prog w = .ok (.int .i64 n) w := run_convert_float_int w _ _ _ _ _ _ (by rfl) (by rfl) h
theorem wW_gets {ms : List Nat} {i : Nat} (h : i < ms.length) : (ms.map wW).getD i 0 = wW (ms.getD i 0) := by
  rw [List.getD_eq_getElem?_getD, List.getD_eq_getElem?_getD, List.getElem?_map, List.getElem?_eq_getElem h, Option.map_some, Option.getD_some, Option.getD_some]
theorem wW_facts : ∀ m : Nat, m < 8 → le32 3212836864 (wW m) = true ∧ le32 (wW m) 1132331008 = true ∧ floatToIntVal .f32 (wW m) .i64 = some (m : Int) ∧ floatOfInt .f32 (m : Int) = wW m ∧ eq32 (wW m) (wW m) = true := by
  have h : ∀ i : Fin 8, le32 3212836864 (wW i.val) = true ∧ le32 (wW i.val) 1132331008 = true ∧ floatToIntVal .f32 (wW i.val) .i64 = some (i.val : Int) ∧ floatOfInt .f32 (i.val : Int) = wW i.val ∧ eq32 (wW i.val) (wW i.val) = true := by decide +kernel
  intro m hm; exact h ⟨m, hm⟩
theorem eq_wW {a b : Nat} (ha : a < 8) (hb : b < 8) : eq32 (wW a) (wW b) = decide (a = b) := by
  unfold wW
  rw [eq32_fq (by omega) (by omega)]
  by_cases e : a = b
  · rw [decide_eq_true e, e]; exact decide_eq_true rfl
  · rw [decide_eq_false e]; exact decide_eq_false (by omega)
theorem pack1_any (m : Nat) (hm : m < 8) (w : World) : Calls Try.prog 42 #[.float .f32 (wW m)] w fun e w' => e = .returned (.bool false) ∧ w = w' := by
  obtain ⟨t1, t2, t3, t4, t5⟩ := wW_facts m hm
  generalize wW m = v at *
  have hm8 : (m : Int) < 8 := by omega
  go_enter Try.func42, Try.ntmps42
  go_wp2
  go_ret
  exact ⟨rfl, rfl⟩

theorem indexPk_none (w : World) (b n cap dp : Nat) (ms : List Nat) (hd : dp ≤ 8) (h : WM w b cap n ms dp) :
    Calls Try.prog 57 #[.slice (some ⟨b, 0, none⟩) n cap, .func (.func 42) #[] #[]] w fun e w' => e = .returned (.int .i64 (-1)) ∧ w = w' := by
  have hz : ∀ i, i < n → w.cell? ⟨b, i, none⟩ = some (.float .f32 (wW (ms.getD i 0))) ∧ ms.getD i 0 < 8 := fun i hi => by
    have hl := h.len
    have := (h.sl.cellAt i (by rw [List.length_map, hl]; exact hi)).1
    rw [Nat.zero_add, wW_gets (by rw [hl]; exact hi)] at this
    refine ⟨this, ?_⟩
    rw [List.getD_eq_getElem?_getD, List.getElem?_eq_getElem (by omega)]
    have := h.bd _ (List.getElem_mem (show i < ms.length by omega))
    simp only [Option.getD_some]; omega
  have hn : n ≤ cap ∧ cap ≤ 9223372036854775807 := by
    obtain ⟨a', c', e, h1, h2, h3⟩ := h.sl.1
    simp only [Value.slice.injEq, List.length_map] at e h1
    omega
  have HZ := Lib.hid hz
  clear h hz
  go_enter Try.func57, Try.ntmps57
  go_wp2_with fail
  go_loopw [8] (fun v8 wr => ∃ i : Nat, v8 = .int .i64 i ∧ i ≤ n ∧ wr = w) (fun v8 _ => n - (intOf v8).toNat)
  case atStart => exact ⟨0, rfl, Nat.zero_le _, rfl⟩
  case round =>
    obtain ⟨i, rfl, hi, hw⟩ := hrel
    have HW := Lib.hid hw
    by_cases hlt : i < n
    · obtain ⟨k1, k2⟩ := HZ.out i hlt
      rw [← hw] at k1
      clear hw
      generalize ms.getD i 0 = x at *
      go_wp2_with fail
      refine (pack1_any x k2 _).mono ?_
      rintro e w1 ⟨rfl, hw1⟩
      go_wp2
      go_roundw
      case rel => exact ⟨i + 1, by go_num, by omega, by first | exact HW.out | (rw [← hw1]; exact HW.out)⟩
      case measure => simp [intOf]; omega
    · have : i = n := by omega
      subst this
      clear hw
      go_wp2
      go_ret
      exact ⟨rfl, HW.out.symm⟩
theorem containsPk_no (w : World) (b n cap dp : Nat) (ms : List Nat) (hd : dp ≤ 8) (h : WM w b cap n ms dp) :
    Calls Try.prog 41 #[.slice (some ⟨b, 0, none⟩) n cap, .func (.func 42) #[] #[]] w fun e w' => e = .returned (.bool false) ∧ w = w' := by
  go_enter Try.func41, Try.ntmps41
  go_wp2_with fail
  refine (indexPk_none w b n cap dp ms hd h).mono ?_
  rintro e w1 ⟨rfl, rfl⟩
  go_wp2
  go_ret
  exact ⟨rfl, rfl⟩

end Go.Proofs.Ytmncihhdkcmmmaa
