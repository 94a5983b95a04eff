/- FnFilled's plain law: no hole beside a value. HolesOf on words. -/
import Derived.Test.YticbgeknledpcaaFv
namespace Go.Proofs.Yticbgeknledpcaa
open Go.RowKit
set_option maxRecDepth 100000
set_option linter.unusedVariables false
set_option linter.unusedSimpArgs false

theorem besL_empty {bs : List Nat} {wd hi : Nat} {x y : Int} : ∀ n, (besL bs wd hi x y n).length = 0 → ∀ k, k < n → besOk bs wd hi x y k = false := by
  intro n
  induction n with
  | zero => intro _ k hk; omega
  | succ n ih =>
    intro h k hk
    unfold besL at h
    cases e : besOk bs wd hi x y n
    · rw [e] at h
      rcases Nat.lt_or_ge k n with h1 | h1
      · exact ih (by simpa using h) k h1
      · have : k = n := by omega
        rw [this]; exact e
    · rw [e] at h; simp at h

/-- Where no hole stands beside a value, a hole makes all cells holes. -/
theorem grid_all {wd hi : Nat} {P : Nat → Nat → Prop}
    (hr : ∀ x y, x + 1 < wd → y < hi → P x y → P (x + 1) y) (hl : ∀ x y, x + 1 < wd → y < hi → P (x + 1) y → P x y)
    (hd : ∀ x y, x < wd → y + 1 < hi → P x y → P x (y + 1)) (hu : ∀ x y, x < wd → y + 1 < hi → P x (y + 1) → P x y)
    {x0 y0 : Nat} (hx0 : x0 < wd) (hy0 : y0 < hi) (h : P x0 y0) : ∀ x y, x < wd → y < hi → P x y := by
  have left : ∀ x, x < wd → P x y0 → P 0 y0 := by
    intro x
    induction x with
    | zero => intro _ h; exact h
    | succ x ih => intro hx h; exact ih (by omega) (hl x y0 hx hy0 h)
  have right : ∀ x, x < wd → P x y0 := by
    intro x
    induction x with
    | zero => intro _; exact left x0 hx0 h
    | succ x ih => intro hx; exact hr x y0 hx hy0 (ih (by omega))
  intro x
  have up : ∀ y, y < hi → x < wd → P x y → P x 0 := by
    intro y
    induction y with
    | zero => intro _ _ h; exact h
    | succ y ih => intro hy hx h; exact ih (by omega) hx (hu x y hx hy h)
  intro y
  induction y with
  | zero => intro hx hy; exact up y0 hy0 hx (right x hx)
  | succ y ih => intro hx hy; exact hd x y hx hy (ih hx (by omega))

theorem grid_words {bs : List Nat} {wd hi N : Nat} (hN : N = wd * hi) (hw0 : 0 < wd) (h : cntW bs wd hi N = 0) {i : Nat} (hi_ : i < N) (h0 : le32 0 (bs.getD i 0) = false) : ∀ j, j < N → le32 0 (bs.getD j 0) = false := by
  have step : ∀ x y, x < wd → y < hi → le32 0 (bs.getD (x + wd * y) 0) = false → ∀ k, k < 4 → besOk bs wd hi (x : Int) (y : Int) k = false := by
    intro x y hx hy hh k hk
    have k0 := cntW_zero N h (x + wd * y) (by rw [hN]; exact xy_lt hx hy)
    rw [xy_mod hx, xy_div hx] at k0
    have k1 : (besL bs wd hi (x : Int) (y : Int) 4).length = 0 := by
      by_cases e : (besL bs wd hi (x : Int) (y : Int) 4).length = 0
      · exact e
      · exact absurd ⟨hh, e⟩ k0
    exact besL_empty 4 k1 k hk
  have all := grid_all (wd := wd) (hi := hi) (P := fun x y => le32 0 (bs.getD (x + wd * y) 0) = false)
    (fun x y hx hy hp => by
      have := step x y (by omega) hy hp 3 (by omega)
      unfold besOk at this
      have e : inB (bsx (x : Int) 3) (bsy (y : Int) 3) wd hi = true := by show inB ((x : Int) + 1) (y : Int) wd hi = true; unfold inB; simp; omega
      rw [e, Bool.true_and] at this
      have e2 : besW bs wd (x : Int) (y : Int) 3 = bs.getD ((x + 1) + wd * y) 0 := by show bs.getD (((x : Int) + 1).toNat + wd * ((y : Int)).toNat) 0 = _; congr 2
      rw [e2] at this; exact this)
    (fun x y hx hy hp => by
      have := step (x + 1) y hx hy hp 2 (by omega)
      unfold besOk at this
      have e : inB (bsx ((x + 1 : Nat) : Int) 2) (bsy (y : Int) 2) wd hi = true := by show inB (((x + 1 : Nat) : Int) - 1) (y : Int) wd hi = true; unfold inB; simp; omega
      rw [e, Bool.true_and] at this
      have e2 : besW bs wd ((x + 1 : Nat) : Int) (y : Int) 2 = bs.getD (x + wd * y) 0 := by show bs.getD ((((x + 1 : Nat) : Int) - 1).toNat + wd * ((y : Int)).toNat) 0 = _; congr 2; omega
      rw [e2] at this; exact this)
    (fun x y hx hy hp => by
      have := step x y hx (by omega) hp 1 (by omega)
      unfold besOk at this
      have e : inB (bsx (x : Int) 1) (bsy (y : Int) 1) wd hi = true := by show inB (x : Int) ((y : Int) + 1) wd hi = true; unfold inB; simp; omega
      rw [e, Bool.true_and] at this
      have e2 : besW bs wd (x : Int) (y : Int) 1 = bs.getD (x + wd * (y + 1)) 0 := by show bs.getD (((x : Int)).toNat + wd * ((y : Int) + 1).toNat) 0 = _; congr 2
      rw [e2] at this; exact this)
    (fun x y hx hy hp => by
      have := step x (y + 1) hx hy hp 0 (by omega)
      unfold besOk at this
      have e : inB (bsx (x : Int) 0) (bsy ((y + 1 : Nat) : Int) 0) wd hi = true := by show inB (x : Int) (((y + 1 : Nat) : Int) - 1) wd hi = true; unfold inB; simp; omega
      rw [e, Bool.true_and] at this
      have e2 : besW bs wd (x : Int) ((y + 1 : Nat) : Int) 0 = bs.getD (x + wd * y) 0 := by show bs.getD (((x : Int)).toNat + wd * (((y + 1 : Nat) : Int) - 1).toNat) 0 = _; congr 3; omega
      rw [e2] at this; exact this)
    (x0 := i % wd) (y0 := i / wd) (Nat.mod_lt i hw0) (Nat.div_lt_of_lt_mul (by omega)) (by show le32 0 (bs.getD (i % wd + wd * (i / wd)) 0) = false; rw [Nat.mod_add_div]; exact h0)
  intro j hj
  have := all (j % wd) (j / wd) (Nat.mod_lt j hw0) (Nat.div_lt_of_lt_mul (by omega))
  simp only [Nat.mod_add_div] at this
  exact this

theorem WM.cap {W : World} {q c N : Nat} {L H : Int} {bs : List Nat} (h : WM W q c N L H bs) : N ≤ c ∧ c ≤ 9223372036854775807 := (slf_size h.sl).2
theorem WM.get {W : World} {q c N : Nat} {L H : Int} {bs : List Nat} (h : WM W q c N L H bs) (i : Nat) (hi : i < N) : W.cell? ⟨q, i, none⟩ = some (.float .f32 (bs.getD i 0)) := by
  have := (h.sl.cellAt i (by rw [h.len]; exact hi)).1
  rw [Nat.zero_add] at this
  rw [this, List.getD_eq_getElem?_getD, List.getElem?_eq_getElem (by rw [h.len]; exact hi)]
theorem holesOf_w (w : World) (wd hi N q c : Nat) (L H : Int) (bs : List Nat) (hv : vPic wd hi N = true) (h : WM w q c N L H bs) :
    Calls Try.prog 12 #[.agg #[.int .i64 wd, .int .i64 hi, .slice (some ⟨q, 0, none⟩) N c]] w fun e w' => e = .returned (.tuple #[.int .i64 (holW bs N : Nat), .bool true]) ∧ Below w.heap.size w w' := by
  obtain ⟨x1, x2, e1, e2, e3, b1, b2, b3, b4, b5⟩ := vPic_spec hv
  have hn : N ≤ 256 := by omega
  clear e1 e2 e3 b1 b2 b3 b4 b5
  have hb0 := alb1 w (.cells #[.int .i64 wd, .int .i64 hi, .slice (some ⟨q, 0, none⟩) N c] 26)
  have B := box_last w (.int .i64 wd) (.int .i64 hi) (.slice (some ⟨q, 0, none⟩) N c) 26
  go_enter Try.func12, Try.ntmps12
  go_wp2_with fail
  refine (validMap_any _ _ _ _ _ (by omega) _).mono ?_
  rw [hv]
  rintro e w1 ⟨rfl, hb1⟩
  have hbb := hb0.trans (hb1.mono hb0.size)
  obtain ⟨c0, c1, c2, f0, f1, f2⟩ := (B.below hb1).cells
  have hm := h.below hbb
  have HG := Lib.hid hm.get
  have HBB := Lib.hid hbb
  have hcap := hm.cap
  clear hb0 B hb1 hbb hm h hv
  go_wp2_with fail
  go_loop [4, 13] (fun v4 v13 => ∃ i : Nat, v4 = .int .i64 (holW bs i : Nat) ∧ v13 = .int .i64 i ∧ i ≤ N) (fun v4 v13 => N - (intOf v13).toNat)
  case atStart => exact ⟨0, rfl, rfl, Nat.zero_le _⟩
  case round =>
    obtain ⟨i, rfl, rfl, hi⟩ := hrel
    by_cases hlt : i < N
    · have k1 := HG.out i hlt
      have hle := holW_le bs i
      have hs : holW bs (i + 1) = holW bs i + (if le32 0 (bs.getD i 0) = false then 1 else 0) := rfl
      have hle2 : holW bs i ≤ 256 := by omega
      have HS := Lib.hid hs
      generalize holW bs i = s at *
      generalize bs.getD i 0 = x at *
      clear hs hle
      cases h0 : le32 0 x
      · go_wp2_with fail
        refine (isHole_any _ _).mono ?_
        rw [h0]
        rintro e w2 ⟨rfl, rfl⟩
        go_wp2
        go_round
        case rel => exact ⟨i + 1, by rw [HS.out, if_pos h0]; go_num, by go_num, by omega⟩
        case measure => simp [intOf]; omega
      · go_wp2_with fail
        refine (isHole_any _ _).mono ?_
        rw [h0]
        rintro e w2 ⟨rfl, rfl⟩
        go_wp2
        go_round
        case rel => exact ⟨i + 1, by rw [HS.out, if_neg (by rw [h0]; decide)]; rfl, by go_num, by omega⟩
        case measure => simp [intOf]; omega
    · obtain rfl : i = N := by omega
      clear hlt
      go_wp2
      go_ret2
      exact ⟨rfl, HBB.out⟩

end Go.Proofs.Yticbgeknledpcaa
