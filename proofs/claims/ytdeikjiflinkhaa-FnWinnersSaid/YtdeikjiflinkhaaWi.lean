/- Volumes of windows: the list of slices, the closure. -/
import Derived.Test.YtdeikjiflinkhaaWh
namespace Go.Proofs.Ytdeikjiflinkhaa
open Go.RowKit
set_option maxRecDepth 100000
set_option linter.unusedVariables false
set_option linter.unusedSimpArgs false

theorem PicO.below {W W' : World} {g o wd hi q c : Nat} {ks : List Int} (h : PicO W g o wd hi q c ks) (hb : Below W.heap.size W W') : PicO W' g o wd hi q c ks := by
  have hlt := World.block_lt_of_cell? _ _ h.c0
  exact ⟨by rw [hb.cell (p := ⟨g, o, none⟩) hlt]; exact h.c0, by rw [hb.cell (p := ⟨g, o + 1, none⟩) hlt]; exact h.c1, by rw [hb.cell (p := ⟨g, o + 2, none⟩) hlt]; exact h.c2, h.m.below hb⟩
theorem sumN_bdB {F : Nat → Int} {A B : Int} (n : Nat) (h : ∀ i, i < n → A ≤ F i ∧ F i ≤ B) : A * n ≤ sumN n F ∧ sumN n F ≤ B * n := by
  induction n with
  | zero => simp [sumN]
  | succ n ih =>
    have h1 := ih (fun i hi => h i (by omega))
    have h2 := h n (by omega)
    rw [Int.natCast_add, Int.natCast_one, Int.mul_add, Int.mul_add, Int.mul_one, Int.mul_one]
    show _ ≤ sumN n F + F n ∧ sumN n F + F n ≤ _
    omega
def boxQ (ks : List Int) (wd hi r : Nat) (x y : Nat) : Nat := fop .quo (fq 2 (winS ks wd hi x y r)) (fq 0 ((2 * r + 1) * (2 * r + 1) : Nat))
theorem Bd.fopQuoB {L H n : Int} {a : Nat} (h : Bd (n * L) (n * H) a) (h1 : 0 ≤ L) (h2 : n * H ≤ 1000000) (h3 : 0 < n) (h4 : n ≤ 1000) (h5 : L ≤ H) : Bd L H (fop .quo a (fq 0 n)) := by
  obtain ⟨s, e, k⟩ := h.quo h1 h2 h3 h4 h5
  unfold fop; rw [e]; show Bd _ _ (Go.Proofs.Ytdeikjiflinkhaa.fl s); rw [k.fl]; exact k
theorem boxQ_bd {ks : List Int} {wd hi r : Nat} {L H : Int} (x y : Nat) (hk : ∀ i, i < wd * hi → L ≤ ks.getD i 0 ∧ ks.getD i 0 ≤ H) (hw : 0 < wd) (hh : 0 < hi) (hr : r ≤ 3) (h1 : 0 ≤ L) (h2 : L ≤ H) (h3 : H ≤ 1000) : Bd L H (boxQ ks wd hi r x y) := by
  obtain ⟨M, hM⟩ : ∃ M : Nat, M = (2 * r + 1) * (2 * r + 1) := ⟨_, rfl⟩
  have hM1 : 1 ≤ M := by rw [hM]; exact Nat.mul_pos (by omega) (by omega)
  have hM2 : M ≤ 7 * 7 := by rw [hM]; exact Nat.mul_le_mul (by omega) (by omega)
  have hs : L * (2 * r + 1 : Nat) * (2 * r + 1 : Nat) ≤ winS ks wd hi x y r ∧ winS ks wd hi x y r ≤ H * (2 * r + 1 : Nat) * (2 * r + 1 : Nat) :=
    sumN_bdB (2 * r + 1) (fun j _ => sumN_bdB (2 * r + 1) (fun i _ => hk _ (ix_lt _ _ hw hh)))
  rw [Int.mul_assoc, Int.mul_assoc, ← Int.natCast_mul, ← hM] at hs
  have k0 : 0 ≤ L * (M : Int) := Int.mul_nonneg h1 (by omega)
  have k1 : H * (M : Int) ≤ 1000 * 49 := Int.le_trans (Int.mul_le_mul_of_nonneg_right h3 (by omega)) (Int.mul_le_mul_of_nonneg_left (by omega) (by decide))
  unfold boxQ
  rw [← hM]
  refine Bd.fopQuoB (n := M) ?_ h1 (by rw [Int.mul_comm]; omega) (by omega) (by omega) h2
  rw [Int.mul_comm (M : Int) L, Int.mul_comm (M : Int) H]
  exact Bd.of hs.1 hs.2 k0 (by omega)

/-- The word of a window's mean. -/
def bxV (ks : List Int) (wd hi dp r : Nat) (x y d : Nat) : Nat := boxQ (tabI (wd * hi) (slcK ks dp d)) wd hi r x y
theorem slc_mem {ks : List Int} (hk : ∀ k ∈ ks, 0 ≤ k ∧ k ≤ 1000) (N dp d : Nat) : ∀ k ∈ tabI N (slcK ks dp d), 0 ≤ k ∧ k ≤ 1000 := by
  intro k h
  obtain ⟨i, hi, rfl⟩ := mem_tabI h
  unfold slcK
  rw [List.getD_eq_getElem?_getD]
  cases e : ks[i * dp + d]? with
  | none => simp
  | some z => exact hk z (List.mem_of_getElem? e)

theorem box1V_gives {W0 : World} {lb rb wd hi dp g n cap r : Nat} {ks : List Int} {q c : Nat → Nat} (hk : ∀ k ∈ ks, 0 ≤ k ∧ k ≤ 1000) (hl : BoxN W0 lb #[.slice (some ⟨g, 0, none⟩) dp cap] 56) (hr : BoxN W0 rb #[.int .i64 r] 2) (hr3 : r ≤ 3) (hp : ∀ d, d < dp → PicO W0 g (d * 3) wd hi (q d) (c d) (tabI (wd * hi) (slcK ks dp d))) (hc1 : dp ≤ cap) (hc2 : cap ≤ 9223372036854775807) (hw0 : 0 < wd) (hh0 : 0 < hi) (hw : wd ≤ 24) (hh : hi ≤ 24) (hd1 : 1 ≤ dp) (hd2 : dp ≤ 8) :
    Gives3 W0 (.func (.func 36) #[] #[.pointer (some ⟨lb, 0, none⟩), .pointer (some ⟨rb, 0, none⟩)]) wd hi dp (bxV ks wd hi dp r) := by
  refine ⟨36, _, rfl, Try.call36, fun x y d W hx hy hd hbW => ?_⟩
  have l0 : W.cell? ⟨lb, 0, none⟩ = some (.slice (some ⟨g, 0, none⟩) dp cap) := (hl.below hbW).cell 0
  have r0 : W.cell? ⟨rb, 0, none⟩ = some (.int .i64 r) := (hr.below hbW).cell 0
  have P := (hp d hd).below hbW
  have K := Lib.hid (fun n => boxedO_q (W.drewN n) g (d * 3) wd hi (q d) (c d) _ x y r hw0 hh0 hw hh (by omega) (by omega) hr3 (slc_mem hk _ dp d) (P.drewN n))
  have K0 := Lib.hid (boxedO_q W.drew g (d * 3) wd hi (q d) (c d) _ x y r hw0 hh0 hw hh (by omega) (by omega) hr3 (slc_mem hk _ dp d) (P.drewN 1))
  have b1 : (d : Int) < (dp : Int) := by omega
  have hsm := slc_mem hk (wd * hi) dp d
  have hbd := boxQ_bd (ks := tabI (wd * hi) (slcK ks dp d)) (wd := wd) (hi := hi) (r := r) (L := 0) (H := 1000) x y (fun i hi_ => by rw [tabI_get hi_]; exact hsm _ (by unfold tabI; exact List.mem_map.2 ⟨i, List.mem_range.2 hi_, rfl⟩)) hw0 hh0 hr3 (by decide) (by decide) (by decide)
  have HBD := Lib.hid hbd
  clear hl hr hp P hbW hsm hbd
  show Calls _ _ #[.int .i64 x, .int .i64 y, .int .i64 d, .pointer (some ⟨lb, 0, none⟩), .pointer (some ⟨rb, 0, none⟩)] _ _
  go_enter Try.func36, Try.ntmps36
  go_wp2_with fail
  go_region_law (first | (go_simp; (with_reducible refine K0.out.mono ?_); rintro e w' ⟨⟨z, hz, rfl⟩, m, rfl⟩) | (go_simp; (with_reducible refine (K.out _).mono ?_); rintro e w' ⟨⟨z, hz, rfl⟩, m, rfl⟩))
  all_goals
    go_wp2
    go_ret
    have hfz : boxQ (tabI (wd * hi) (slcK ks dp d)) wd hi r x y = fl z := by unfold boxQ fop; rw [hz]
    have hn : nan32 z = false := by rw [← nan32_fl, ← hfz]; exact HBD.out.nan
    have hlt : z < 4294967296 := by rw [← fl_eq hn, ← hfz]; exact HBD.out.lt
    exact ⟨z, rfl, hlt, hfz.symm, below_drewN (Below.refl _ _) _⟩

end Go.Proofs.Ytdeikjiflinkhaa
