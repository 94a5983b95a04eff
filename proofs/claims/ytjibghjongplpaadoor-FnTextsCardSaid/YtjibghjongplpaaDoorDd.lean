/- The laws' comparisons of lists: b10Same, b10Nums. -/
import Derived.Test.YtjibghjongplpaaDoorEx
import Derived.Test.YtjibghjongplpaaDoorNum
import Derived.Test.YtjibghjongplpaaDoorCz
namespace Go.Proofs.YtjibghjongplpaaDoor
open Go.RowKit
set_option maxRecDepth 100000
set_option linter.unusedVariables false
set_option linter.unusedSimpArgs false

theorem OwnZ.some_of {w : World} {B n c : Nat} {s : Option Addr} {zs : List Int} (h : OwnZ w B (.slice s n c) zs) (hn : 0 < zs.length) : ∃ g, s = some ⟨g, 0, none⟩ := by
  rcases h.2 with ⟨_, q⟩ | ⟨g, cap, cur, e, _⟩
  · omega
  · simp only [Value.slice.injEq] at e
    exact ⟨g, e.1⟩

theorem b10Same_yes (w : World) (s1 s2 : Option Addr) (n c1 c2 : Nat) (xs ys : List Nat) (h1 : SlF w (.slice s1 n c1) xs) (h2 : SlF w (.slice s2 n c2) ys) (hx : xs.length = n) (hn : n ≤ 1000) (he : xs.map fl = ys.map fl) :
    Calls Tryd.prog 10 #[.slice s1 n c1, .slice s2 n c2] w fun e w' => e = .returned (.bool true) ∧ ∃ q, w' = w.drewN q := by
  have hy : ys.length = n := by have := congrArg List.length he; simpa [hx] using this.symm
  have hz : ∀ i : Nat, i < n → ∃ g1 o1 g2 o2, s1 = some ⟨g1, o1, none⟩ ∧ s2 = some ⟨g2, o2, none⟩ ∧ w.cell? ⟨g1, o1 + i, none⟩ = some (.float .f32 (xs.getD i 0)) ∧ w.cell? ⟨g2, o2 + i, none⟩ = some (.float .f32 (ys.getD i 0)) ∧ xs.getD i 0 < 4294967296 ∧ ys.getD i 0 < 4294967296 ∧ sm (xs.getD i 0) (ys.getD i 0) = true := fun i hi => by
    obtain ⟨b1, o1, _, q1, _, _⟩ := h1.form (by intro e; rw [e] at hx; simp at hx; omega)
    obtain ⟨b2, o2, _, q2, _, _⟩ := h2.form (by intro e; rw [e] at hy; simp at hy; omega)
    simp only [Value.slice.injEq] at q1 q2
    obtain ⟨rfl, _⟩ := q1
    obtain ⟨rfl, _⟩ := q2
    have k1 := cellAt2 h1 i (by rw [hx]; exact hi)
    have k2 := cellAt2 h2 i (by rw [hy]; exact hi)
    refine ⟨b1, o1, b2, o2, rfl, rfl, k1.1, k2.1, k1.2, k2.2, ?_⟩
    have := congrArg (fun l => l.getD i 0) he
    simp only [List.getD_eq_getElem?_getD, List.getElem?_map] at this ⊢
    rw [List.getElem?_eq_getElem (show i < xs.length by omega), List.getElem?_eq_getElem (show i < ys.length by omega)] at this ⊢
    unfold sm
    simpa using this
  have HZ := Lib.hid hz
  clear h1 h2 he hx hy hz
  have hnI : (n : Int) ≤ 1000 := by omega
  go_enter Tryd.func10, Tryd.ntmps10
  go_wp2_with fail
  go_loopw [5] (fun v3 wr => ∃ i q : Nat, v3 = .int .i64 i ∧ i ≤ n ∧ wr = w.drewN q) (fun v3 _ => n - (intOf v3).toNat)
  case atStart => exact ⟨0, 0, rfl, Nat.zero_le _, rfl⟩
  case round =>
    obtain ⟨i, q, rfl, hi, rfl⟩ := hrel
    by_cases hlt : i < n
    · obtain ⟨g1, o1, g2, o2, rfl, rfl, k1, k2, k3, k4, k5⟩ := HZ.out i hlt
      have hltI : (i : Int) < (n : Int) := by omega
      obtain ⟨x, hx⟩ : ∃ x, xs.getD i 0 = x := ⟨_, rfl⟩
      obtain ⟨y, hy⟩ : ∃ y, ys.getD i 0 = y := ⟨_, rfl⟩
      rw [hx] at k1 k3 k5
      rw [hy] at k2 k4 k5
      have j1 : ∀ q, (w.drewN q).cell? ⟨g1, o1 + i, none⟩ = some (.float .f32 x) := fun _ => k1
      have j2 : ∀ q, (w.drewN q).cell? ⟨g2, o2 + i, none⟩ = some (.float .f32 y) := fun _ => k2
      have KS := Lib.hid (fun W => sSame_any x y W k3 k4)
      rw [k5] at KS
      clear k1 k2 k3 k4 k5 hx hy
      go_wp2_with fail
      go_region_law (first
        | (go_simp; refine (KS.out _).mono ?_; rintro e w' ⟨rfl, rfl⟩))
      all_goals
       go_wp2
       go_roundw
       case rel => exact ⟨i + 1, _, by go_num, by omega, rfl⟩
       case measure => simp [intOf]; omega
    · obtain rfl : i = n := by omega
      go_wp2_with fail
      go_ret
      exact ⟨rfl, _, rfl⟩

theorem b10Nums_yes (w : World) (B1 B2 : Nat) (s1 s2 : Option Addr) (n c1 c2 : Nat) (zs : List Int) (h1 : OwnZ w B1 (.slice s1 n c1) zs) (h2 : OwnZ w B2 (.slice s2 n c2) zs) (hx : zs.length = n) (hn : n ≤ 1000) :
    Calls Tryd.prog 13 #[.slice s1 n c1, .slice s2 n c2] w fun e w' => e = .returned (.bool true) ∧ ∃ q, w' = w.drewN q := by
  have hz : ∀ i : Nat, i < n → ∃ g1 g2, s1 = some ⟨g1, 0, none⟩ ∧ s2 = some ⟨g2, 0, none⟩ ∧ w.cell? ⟨g1, i, none⟩ = some (.int .i64 (zs.getD i 0)) ∧ w.cell? ⟨g2, i, none⟩ = some (.int .i64 (zs.getD i 0)) ∧ g1 < w.heap.size ∧ g2 < w.heap.size := fun i hi => by
    obtain ⟨g1, rfl⟩ := h1.some_of (by omega)
    obtain ⟨g2, rfl⟩ := h2.some_of (by omega)
    exact ⟨g1, g2, rfl, rfl, h1.cellAt i (by rw [hx]; exact hi), h2.cellAt i (by rw [hx]; exact hi), (h1.lt (k := g1) rfl).2, (h2.lt (k := g2) rfl).2⟩
  have HZ := Lib.hid hz
  clear h1 h2 hx hz
  have hnI : (n : Int) ≤ 1000 := by omega
  go_enter Tryd.func13, Tryd.ntmps13
  go_wp2_with fail
  go_loopw [5] (fun v3 wr => ∃ i q : Nat, v3 = .int .i64 i ∧ i ≤ n ∧ wr = w.drewN q) (fun v3 _ => n - (intOf v3).toNat)
  case atStart => exact ⟨0, 0, rfl, Nat.zero_le _, rfl⟩
  case round =>
    obtain ⟨i, q, rfl, hi, rfl⟩ := hrel
    by_cases hlt : i < n
    · obtain ⟨g1, g2, rfl, rfl, k1, k2, l1, l2⟩ := HZ.out i hlt
      have hltI : (i : Int) < (n : Int) := by omega
      obtain ⟨x, hx⟩ : ∃ x, zs.getD i 0 = x := ⟨_, rfl⟩
      rw [hx] at k1 k2
      have j1 : ∀ q, (w.drewN q).cell? ⟨g1, i, none⟩ = some (.int .i64 x) := fun _ => k1
      have j2 : ∀ q, (w.drewN q).cell? ⟨g2, i, none⟩ = some (.int .i64 x) := fun _ => k2
      clear hx k1 k2
      go_wp2_with fail
      go_quiet (fail)
      go_wp2_with fail
      go_roundw
      case rel => exact ⟨i + 1, _, by go_num, by omega, rfl⟩
      case measure => simp [intOf]; omega
    · obtain rfl : i = n := by omega
      go_wp2_with fail
      go_ret
      exact ⟨rfl, _, rfl⟩

end Go.Proofs.YtjibghjongplpaaDoor
