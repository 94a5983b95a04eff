/- The checks of tiles: plain; the reference. -/
import Derived.Test.YtogojmimflgmmaaNb
import Derived.Test.YtogojmimflgmmaaAi
namespace Go.Proofs.Ytogojmimflgmmaa
open Go.RowKit
set_option maxRecDepth 100000
set_option linter.unusedVariables false
set_option linter.unusedSimpArgs false

theorem iTiles_no (w : World) (h wk : Int) (hno : ¬ (1 ≤ h ∧ h ≤ 24 ∧ 1 ≤ wk ∧ wk ≤ 8)) :
    Calls Try.prog 20 #[.int .i64 h, .int .i64 wk] w fun e w' => e = .returned (.tuple #[.slice none 0 0, .bool false]) ∧ w = w' := by
  have K1 := Lib.hid (fun W => in_any h 1 24 W)
  have K2 := Lib.hid (fun W => in_any wk 1 8 W)
  cases h1 : (decide (1 ≤ h) && decide (h ≤ 24))
  · rw [h1] at K1
    clear hno
    go_enter Try.func20, Try.ntmps20
    go_wp2_with fail
    refine (K1.out _).mono ?_
    rintro e w1 ⟨rfl, rfl⟩
    go_wp2_with fail
    go_ret2
    exact ⟨rfl, rfl⟩
  · have h2 : (decide (1 ≤ wk) && decide (wk ≤ 8)) = false := by
      simp only [Bool.and_eq_true, decide_eq_true_eq] at h1
      rw [Bool.and_eq_false_iff]
      by_cases e : 1 ≤ wk
      · right; rw [decide_eq_false_iff_not]; intro e2; exact hno ⟨h1.1, h1.2, e, e2⟩
      · left; rw [decide_eq_false_iff_not]; exact e
    rw [h1] at K1
    rw [h2] at K2
    clear hno h1 h2
    go_enter Try.func20, Try.ntmps20
    go_wp2_with fail
    refine (K1.out _).mono ?_
    rintro e w1 ⟨rfl, rfl⟩
    go_wp2_with fail
    refine (K2.out _).mono ?_
    rintro e w1 ⟨rfl, rfl⟩
    go_wp2_with fail
    go_ret2
    exact ⟨rfl, rfl⟩

/-- A row's text. -/
def rowL (bs : List Nat) (wd y : Nat) : List Nat := (bs.drop (wd * y)).take wd
def tileT (bs : List Nat) (wd a c : Nat) : List UInt8 := (List.range c).flatMap fun j => numT (rowL bs wd (a + j))
theorem tileT_succ (bs : List Nat) (wd a c : Nat) : tileT bs wd a (c + 1) = tileT bs wd a c ++ numT (rowL bs wd (a + c)) := by
  unfold tileT; rw [List.range_succ, List.flatMap_append]; simp
theorem tileT_len (bs : List Nat) (wd a : Nat) (hw : wd ≤ 24) : ∀ c, (tileT bs wd a c).length ≤ 220 * c
  | 0 => by simp [tileT]
  | c + 1 => by
    have ih := tileT_len bs wd a hw c
    have h1 := numT_le (rowL bs wd (a + c))
    have h2 : (rowL bs wd (a + c)).length ≤ wd := by unfold rowL; rw [List.length_take]; omega
    rw [tileT_succ, List.length_append]; omega
/-- The check of a tile. -/
def chkT (bs : List Nat) (wd : Nat) (t : Nat × Nat) : Int := (ckT 0 (tileT bs wd t.1 t.2) : Nat)
def chksT (bs : List Nat) (wd hi wk : Nat) : List Int := (tileG hi wk wk).1.map (chkT bs wd)

/-- A row of a map, cut out. -/
theorem row_sl {w : World} {b o n c wd hi y : Nat} {bs : List Nat} (h : SlF w (.slice (some ⟨b, o, none⟩) n c) bs) (hn : n = wd * hi) (hy : y < hi) (hw : 1 ≤ wd) :
    SlF w (.slice (some ⟨b, o + wd * y, none⟩) wd (c - wd * y)) (rowL bs wd y) ∧ (rowL bs wd y).length = wd ∧ wd * y + wd ≤ n ∧ n ≤ c ∧ c ≤ 9223372036854775807 ∧ bs.length = n := by
  obtain ⟨⟨a, cap, e, h1, h2, h3⟩, h4⟩ := h
  injection e with e1 e2 e3
  subst e3
  rw [List.length_map] at e2 h1
  have hle : wd * y + wd ≤ n := by
    rw [hn]
    calc wd * y + wd = wd * (y + 1) := by rw [Nat.mul_succ]
      _ ≤ wd * hi := Nat.mul_le_mul_left _ hy
  have hlen : (rowL bs wd y).length = wd := by unfold rowL; rw [List.length_take, List.length_drop]; omega
  rcases h3 with h3 | ⟨b', o', e4, hb, hc⟩
  · have : bs.length = 0 := by have := congrArg List.length h3; simpa using this
    omega
  · rw [← e1] at e4
    simp only [Option.some.injEq, Addr.mk.injEq, and_true] at e4
    obtain ⟨rfl, rfl⟩ := e4
    refine ⟨⟨⟨_, _, by rw [List.length_map, hlen], by rw [List.length_map, hlen]; omega, by omega, .inr ⟨b, o + wd * y, rfl, hb, fun i hi' => ?_⟩⟩, fun x hx => ?_⟩, hlen, hle, by omega, h2, by omega⟩
    · rw [List.length_map, hlen] at hi'
      have hk : wd * y + i < bs.length := by omega
      have := hc (wd * y + i) (by rw [List.length_map]; exact hk)
      rw [Nat.add_assoc, this]
      congr 1
      rw [List.getElem_map, List.getElem_map]
      congr 1
      unfold rowL
      rw [List.getElem_take, List.getElem_drop]
    · unfold rowL at hx
      exact h4 x (List.mem_of_mem_drop (List.mem_of_mem_take hx))

end Go.Proofs.Ytogojmimflgmmaa
