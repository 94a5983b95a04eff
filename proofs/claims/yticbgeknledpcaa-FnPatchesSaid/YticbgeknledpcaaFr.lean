/- Rows of a map that are filled: the next value of a row, FillRows. -/
import Derived.Test.YticbgeknledpcaaMs
namespace Go.Proofs.Yticbgeknledpcaa
open Go.RowKit
set_option maxRecDepth 100000
set_option linter.unusedVariables false
set_option linter.unusedSimpArgs false

/-- The next value of a row that is none of a hole: rightwards from a place, and leftwards before one. -/
def nxtR (g : Nat → Int) : Nat → Nat → Int
  | 0, _ => -4
  | n + 1, u => if 0 ≤ g u then g u else nxtR g n (u + 1)
def nxtL (g : Nat → Int) : Nat → Int
  | 0 => -4
  | u + 1 => if 0 ≤ g u then g u else nxtL g u
theorem nxtR_or (g : Nat → Int) : ∀ n u, (nxtR g n u = -4 ∧ ∀ i, i < n → g (u + i) < 0) ∨ ∃ i, i < n ∧ nxtR g n u = g (u + i) ∧ 0 ≤ g (u + i) := by
  intro n
  induction n with
  | zero => intro u; exact .inl ⟨rfl, fun i hi => by omega⟩
  | succ n ih =>
    intro u
    by_cases h : 0 ≤ g u
    · exact .inr ⟨0, by omega, by simp [nxtR, h], by simpa using h⟩
    · have e : nxtR g (n + 1) u = nxtR g n (u + 1) := by simp [nxtR, h]
      rw [e]
      rcases ih (u + 1) with ⟨h1, h2⟩ | ⟨i, h1, h2, h3⟩
      · refine .inl ⟨h1, fun i hi => ?_⟩
        cases i with
        | zero => simp; omega
        | succ j => have := h2 j (by omega); rw [show u + (j + 1) = u + 1 + j by omega]; exact this
      · exact .inr ⟨i + 1, by omega, by rw [h2]; congr 1; omega, by rw [show u + (i + 1) = u + 1 + i by omega]; exact h3⟩
theorem nxtL_or (g : Nat → Int) : ∀ u, (nxtL g u = -4 ∧ ∀ i, i < u → g i < 0) ∨ ∃ i, i < u ∧ nxtL g u = g i ∧ 0 ≤ g i := by
  intro u
  induction u with
  | zero => exact .inl ⟨rfl, fun i hi => by omega⟩
  | succ u ih =>
    by_cases h : 0 ≤ g u
    · exact .inr ⟨u, by omega, by simp [nxtL, h], h⟩
    · have e : nxtL g (u + 1) = nxtL g u := by simp [nxtL, h]
      rw [e]
      rcases ih with ⟨h1, h2⟩ | ⟨i, h1, h2, h3⟩
      · refine .inl ⟨h1, fun i hi => ?_⟩
        rcases Nat.lt_or_ge i u with h4 | h4
        · exact h2 i h4
        · have : i = u := by omega
          subst this; omega
      · exact .inr ⟨i, by omega, h2, h3⟩

def rowG (ks : List Int) (wd y : Nat) (u : Nat) : Int := ks.getD (u + wd * y) 0
theorem inB_nat {x y wd hi : Nat} (hx : x < wd) (hy : y < hi) : inB (x : Int) (y : Int) wd hi = true := by
  unfold inB; simp; omega
theorem inB_right {y wd hi : Nat} : inB (wd : Int) (y : Int) wd hi = false := by
  unfold inB; simp; omega
theorem inB_left {y wd hi : Nat} : inB (-1 : Int) (y : Int) wd hi = false := by
  unfold inB; simp
theorem negf : (3212836864 : Nat) = fq 2 (-4) := by decide +kernel

theorem nextR_q (W : World) (pb wd hi : Nat) (v : Value) (ks : List Int) (x y : Nat) (hx : x < wd) (hy : y < hi) (hw2 : wd ≤ 1000) (hh2 : hi ≤ 1000) (h : PicAt W pb wd hi v (ks.map (fq 2)) 26) (hk : ∀ i, (ks.getD i 0).natAbs ≤ 1000) :
    Calls Try.prog 40 #[.pointer (some ⟨pb, 0, none⟩), .int .i64 x, .int .i64 y, .int .i64 1] W fun e w' => e = .returned (.float .f32 (fq 2 (nxtR (rowG ks wd y) (wd - 1 - x) (x + 1)))) ∧ ∃ n, w' = W.drewN n := by
  have KA := Lib.hid (fun n u hu => mat_q (W.drewN n) pb wd hi _ ks u y u y rfl rfl hu hy (by omega) (by omega) (h.drew2 n))
  have KH := Lib.hid (fun n u => mapHas_any (W.drewN n) pb wd hi _ u y hw2 hh2 (h.drew2 n).box)
  have HK := Lib.hid hk
  clear h hk
  go_enter Try.func40, Try.ntmps40
  go_wp2_with fail
  go_loopw [9] (fun v9 wr => ∃ u n : Nat, v9 = .int .i64 u ∧ x + 1 ≤ u ∧ u ≤ wd ∧ nxtR (rowG ks wd y) (wd - 1 - x) (x + 1) = nxtR (rowG ks wd y) (wd - u) u ∧ wr = W.drewN n) (fun v9 _ => wd - (intOf v9).toNat)
  case atStart => exact ⟨x + 1, 0, by go_num, by omega, by omega, by congr 1; omega, rfl⟩
  case round =>
    obtain ⟨u, n, rfl, hu1, hu2, hnx, rfl⟩ := hrel
    by_cases hlt : u < wd
    · have hin := inB_nat hlt hy
      have hA := KA.out n u hlt
      have hk0 := HK.out (u + wd * y)
      have h0 := le0_fq (k := ks.getD (u + wd * y) 0) (by omega)
      have e1 : wd - u = (wd - (u + 1)) + 1 := by omega
      have e2 : nxtR (rowG ks wd y) (wd - u) u = if 0 ≤ ks.getD (u + wd * y) 0 then ks.getD (u + wd * y) 0 else nxtR (rowG ks wd y) (wd - (u + 1)) (u + 1) := by rw [e1]; rfl
      rw [e2] at hnx
      clear e2 e1
      go_wp2_with fail
      refine (KH.out n u).mono ?_
      rw [hin]
      rintro e w1 ⟨rfl, rfl⟩
      go_wp2_with fail
      refine hA.mono ?_
      rintro e w1 ⟨rfl, m, rfl⟩
      obtain ⟨k', hk'⟩ := drewN_drewN W n m
      rw [hk']
      clear hk'
      have hA2 := KA.out k' u hlt
      by_cases hk1 : 0 ≤ ks.getD (u + wd * y) 0
      · simp only [hk1, decide_true] at h0
        rw [if_pos hk1] at hnx
        have HNX := Lib.hid (congrArg (fq 2) hnx)
        clear hnx hk0 hk1
        generalize fq 2 (ks.getD (u + wd * y) 0) = xx at *
        go_wp2_with fail
        refine (noHole_any _ _).mono ?_
        rw [h0]
        rintro e w2 ⟨rfl, rfl⟩
        go_wp2_with fail
        refine hA2.mono ?_
        rintro e w1 ⟨rfl, m, rfl⟩
        obtain ⟨k2, hk2⟩ := drewN_drewN W k' m
        rw [hk2]
        clear hk2
        go_wp2
        go_ret
        exact ⟨by rw [HNX.out]; rfl, _, rfl⟩
      · simp only [hk1, decide_false] at h0
        rw [if_neg hk1] at hnx
        have HNX := Lib.hid hnx
        generalize ks.getD (u + wd * y) 0 = kk at *
        clear hnx hk0 hk1
        generalize fq 2 kk = xx at *
        go_wp2_with fail
        refine (noHole_any _ _).mono ?_
        rw [h0]
        rintro e w2 ⟨rfl, rfl⟩
        go_wp2
        go_roundw
        case rel => exact ⟨u + 1, k', by go_num, by omega, by omega, HNX.out, rfl⟩
        case measure => simp [intOf]; omega
    · obtain rfl : u = wd := by omega
      have e1 : nxtR (rowG ks u y) (u - u) u = -4 := by rw [Nat.sub_self]; rfl
      rw [e1] at hnx
      have HNX := Lib.hid (congrArg (fq 2) hnx)
      clear hnx e1
      go_wp2_with fail
      refine (KH.out n u).mono ?_
      rw [inB_right]
      rintro e w1 ⟨rfl, rfl⟩
      go_wp2
      go_ret
      exact ⟨by rw [HNX.out]; rfl, _, rfl⟩

theorem nextL_q (W : World) (pb wd hi : Nat) (v : Value) (ks : List Int) (x y : Nat) (hx : x < wd) (hy : y < hi) (hw2 : wd ≤ 1000) (hh2 : hi ≤ 1000) (h : PicAt W pb wd hi v (ks.map (fq 2)) 26) (hk : ∀ i, (ks.getD i 0).natAbs ≤ 1000) :
    Calls Try.prog 40 #[.pointer (some ⟨pb, 0, none⟩), .int .i64 x, .int .i64 y, .int .i64 (-1)] W fun e w' => e = .returned (.float .f32 (fq 2 (nxtL (rowG ks wd y) x))) ∧ ∃ n, w' = W.drewN n := by
  have KA := Lib.hid (fun n u hu => mat_q (W.drewN n) pb wd hi _ ks u y u y rfl rfl hu hy (by omega) (by omega) (h.drew2 n))
  have KH := Lib.hid (fun n (u : Int) => mapHas_any (W.drewN n) pb wd hi _ u y hw2 hh2 (h.drew2 n).box)
  have HK := Lib.hid hk
  clear h hk
  go_enter Try.func40, Try.ntmps40
  go_wp2_with fail
  go_loopw [9] (fun v9 wr => ∃ u n : Nat, v9 = .int .i64 ((u : Int) - 1) ∧ u ≤ x ∧ nxtL (rowG ks wd y) x = nxtL (rowG ks wd y) u ∧ wr = W.drewN n) (fun v9 _ => (intOf v9 + 1).toNat)
  case atStart => exact ⟨x, 0, by go_num, by omega, rfl, rfl⟩
  case round =>
    obtain ⟨u0, n, rfl, hu1, hnx, rfl⟩ := hrel
    by_cases hlt0 : 0 < u0
    · obtain ⟨u, rfl⟩ : ∃ u, u0 = u + 1 := ⟨u0 - 1, by omega⟩
      have hlt : u < wd := by omega
      have eu : (((u + 1 : Nat) : Int)) - 1 = (u : Int) := by omega
      rw [eu]
      clear hlt0
      have hin := inB_nat hlt hy
      have hA := KA.out n u hlt
      have hk0 := HK.out (u + wd * y)
      have h0 := le0_fq (k := ks.getD (u + wd * y) 0) (by omega)
      have e2 : nxtL (rowG ks wd y) (u + 1) = if 0 ≤ ks.getD (u + wd * y) 0 then ks.getD (u + wd * y) 0 else nxtL (rowG ks wd y) u := rfl
      rw [e2] at hnx
      clear e2
      go_wp2_with fail
      refine (KH.out n u).mono ?_
      rw [hin]
      rintro e w1 ⟨rfl, rfl⟩
      go_wp2_with fail
      refine hA.mono ?_
      rintro e w1 ⟨rfl, m, rfl⟩
      obtain ⟨k', hk'⟩ := drewN_drewN W n m
      rw [hk']
      clear hk'
      have hA2 := KA.out k' u hlt
      by_cases hk1 : 0 ≤ ks.getD (u + wd * y) 0
      · simp only [hk1, decide_true] at h0
        rw [if_pos hk1] at hnx
        have HNX := Lib.hid (congrArg (fq 2) hnx)
        clear hnx hk0 hk1
        generalize fq 2 (ks.getD (u + wd * y) 0) = xx at *
        go_wp2_with fail
        refine (noHole_any _ _).mono ?_
        rw [h0]
        rintro e w2 ⟨rfl, rfl⟩
        go_wp2_with fail
        refine hA2.mono ?_
        rintro e w1 ⟨rfl, m, rfl⟩
        obtain ⟨k2, hk2⟩ := drewN_drewN W k' m
        rw [hk2]
        clear hk2
        go_wp2
        go_ret
        exact ⟨by rw [HNX.out]; rfl, _, rfl⟩
      · simp only [hk1, decide_false] at h0
        rw [if_neg hk1] at hnx
        have HNX := Lib.hid hnx
        generalize ks.getD (u + wd * y) 0 = kk at *
        clear hnx hk0 hk1
        generalize fq 2 kk = xx at *
        go_wp2_with fail
        refine (noHole_any _ _).mono ?_
        rw [h0]
        rintro e w2 ⟨rfl, rfl⟩
        go_wp2
        go_roundw
        case rel => exact ⟨u, k', by go_num, by omega, HNX.out, rfl⟩
        case measure => simp [intOf]; omega
    · obtain rfl : u0 = 0 := by omega
      have eu : (((0 : Nat) : Int)) - 1 = -1 := by omega
      rw [eu]
      have e1 : nxtL (rowG ks wd y) 0 = -4 := rfl
      rw [e1] at hnx
      have HNX := Lib.hid (congrArg (fq 2) hnx)
      clear hnx e1
      go_wp2_with fail
      refine (KH.out n (-1)).mono ?_
      rw [inB_left]
      rintro e w1 ⟨rfl, rfl⟩
      go_wp2
      go_ret
      exact ⟨by rw [HNX.out]; rfl, _, rfl⟩

end Go.Proofs.Yticbgeknledpcaa
