/- Maps of winners, least costs, margins, trust, sharp disparities: what they hold, for quarters. -/
import Derived.Test.YtdeikjiflinkhaaWs
namespace Go.Proofs.Ytdeikjiflinkhaa
open Go.RowKit
set_option maxRecDepth 100000
set_option linter.unusedVariables false
set_option linter.unusedSimpArgs false

theorem trust_bd {z k : Int} (hz0 : 0 ≤ z) (hz1 : z ≤ 2000) (hk0 : 0 ≤ k) (hk1 : k ≤ 1000) : lt32 (trustV (fq 2 z) (fq 2 k)) 0 = false ∧ lt32 1065353216 (trustV (fq 2 z) (fq 2 k)) = false := by
  unfold trustV
  rw [fl_fq (by omega), fop_add (by omega) (by omega) (by omega), if_neg (by rw [fq_fin (by omega)]; simp)]
  by_cases h : z + k = 0
  · obtain rfl : z = 0 := by omega
    obtain rfl : k = 0 := by omega
    have e : nan32 (fop .quo (fq 2 0) (fq 2 (0 + 0))) = true := by decide +kernel
    rw [if_pos e]
    exact ⟨by decide, by decide⟩
  · have hd : ∃ r, floatBits .quo .f32 (fq 2 z) (fq 2 (z + k)) = some r ∧ fin32 r = true ∧ r < 4294967296 ∧ vv (fq 2 0) ≤ vv r ∧ vv r ≤ vv (fq 2 4) := by
      obtain ⟨P, hP0, hP, hP4⟩ := unitP
      have q1 := hP z (by omega)
      have q2 := hP (z + k) (by omega)
      have q3 := hP 0 (by decide)
      have q4 := hP 4 (by decide)
      have zP : 0 ≤ z * P := Int.mul_nonneg hz0 (by omega)
      have kP : 0 ≤ k * P := Int.mul_nonneg hk0 (by omega)
      have sP : 0 < (z + k) * P := Int.mul_pos (by omega) hP0
      refine div_bd (fq_fin (by omega)) (fq_fin (by omega)) (fq_fin (by decide)) (fq_fin (by decide)) (by rw [q2]; exact sP) (by rw [q1]; exact zP) ?_ ?_
      · rw [q3, Int.zero_mul, Int.zero_mul, hP4, q1]
        exact Int.mul_nonneg zP (by omega)
      · rw [q1, q2, q4, hP4, Int.add_mul]
        generalize z * P = a at *
        generalize k * P = b at *
        rw [Int.mul_comm a, Int.mul_add]
        have : 0 ≤ 4 * P * b := Int.mul_nonneg (by omega) kP
        omega
    obtain ⟨r, hr, hf, hl, h1, h2⟩ := hd
    rw [fop_some hr hf, if_neg (by rw [nan_of_fin32 hf]; simp)]
    have e0 : (0 : Nat) = fq 2 0 := (fq_zero 2).symm
    constructor
    · rw [show lt32 r 0 = lt32 r (fq 2 0) from by rw [← e0], lt32_vv hf (fq_fin (by decide))]
      exact decide_eq_false (by omega)
    · rw [one_q, lt32_vv (fq_fin (by decide)) hf]
      exact decide_eq_false (by omega)

/-- A word of a map that is told of the cells' costs. -/
theorem map_word {bs : List Nat} {ks : List Int} {wd hi dp M N q i : Nat} {h : (Nat → Nat) → Nat} (hc : bs.map fl = tab (hi * wd) (fun i => h (gc (ks.map (fq 2)) wd dp (i % wd) (i / wd)))) (hl : bs.length = N) (hN : N = wd * hi) (hM : M = wd * hi * dp) (hk : ks.length = M) (hw : 0 < wd) (hi_ : i < N) :
    ∃ f, fl (bs.getD i 0) = h f ∧ ∀ d, d < dp → f d = fq 2 (ks.getD (i * dp + d) 0) := by
  refine ⟨gc (ks.map (fq 2)) wd dp (i % wd) (i / wd), ?_, fun d hd => ?_⟩
  · have e : (bs.map fl).getD i 0 = (tab (hi * wd) (fun i => h (gc (ks.map (fq 2)) wd dp (i % wd) (i / wd)))).getD i 0 := by rw [hc]
    rw [map_getD _ _ (by rw [hl]; exact hi_)] at e
    rw [e, List.getD_eq_getElem?_getD, List.getElem?_eq_getElem (by rw [tab_length, Nat.mul_comm, ← hN]; exact hi_), tab_get]; rfl
  · have hx : i % wd < wd := Nat.mod_lt _ hw
    have hy : i / wd < hi := (Nat.div_lt_iff_lt_mul hw).2 (by rw [hN, Nat.mul_comm] at hi_; exact hi_)
    rw [gc_q hM hk hx hy hd, Nat.mod_add_div]

/-- What is known of the costs. -/
structure Costs (ks : List Int) (wd hi dp M N : Nat) : Prop where
  hN : N = wd * hi
  hM : M = wd * hi * dp
  hk : ks.length = M
  w1 : 0 < wd
  d1 : 1 ≤ dp
  d8 : dp ≤ 8
  bd : ∀ i, 0 ≤ ks.getD i 0 ∧ ks.getD i 0 ≤ 30
theorem Costs.nb {ks : List Int} {wd hi dp M N : Nat} (h : Costs ks wd hi dp M N) (i : Nat) : (ks.getD i 0).natAbs ≤ 1000 := by have := h.bd i; omega
theorem Costs.won {ks : List Int} {wd hi dp M N : Nat} (h : Costs ks wd hi dp M N) (i : Nat) : WonOk ks dp i := won_ok i h.d1 h.nb

theorem won_get {ks : List Int} {dp N i : Nat} (h : i < N) : (tabI N fun i => 4 * (wonD ks dp i : Int)).getD i 0 = 4 * (wonD ks dp i : Int) := tabI_get h
theorem map_fq_get (ks : List Int) (i : Nat) (h : i < (ks.map (fq 2)).length) : (ks.map (fq 2))[i] = fq 2 (ks.getD i 0) := by
  rw [List.getElem_map]
  congr 1
  rw [List.getD_eq_getElem?_getD, List.getElem?_eq_getElem (by simpa using h)]; rfl
theorem won_cell {bs : List Nat} {ks : List Int} {wd hi dp M N i : Nat} (C : Costs ks wd hi dp M N) (hc : bs.map fl = tab (hi * wd) (fun i => (fun x y => wonW dp (gc (ks.map (fq 2)) wd dp x y)) (i % wd) (i / wd))) (hl : bs.length = N) (hi_ : i < N) : bs.getD i 0 = fq 2 (4 * (wonD ks dp i : Int)) := by
  obtain ⟨f, e, hf⟩ := map_word (q := 0) (h := wonW dp) hc hl C.hN C.hM C.hk C.w1 hi_
  have hw := C.won i
  have hb : (4 * (wonD ks dp i : Int)).natAbs ≤ 16777216 := by have := hw.lt; have := C.d8; omega
  unfold wonW at e
  rw [winW_congr dp hf, hw.eq, whole_q] at e
  exact eq_of_flq hb e
theorem won_word {bs : List Nat} {ks : List Int} {wd hi dp M N : Nat} (C : Costs ks wd hi dp M N) (hc : bs.map fl = tab (hi * wd) (fun i => (fun x y => wonW dp (gc (ks.map (fq 2)) wd dp x y)) (i % wd) (i / wd))) (hl : bs.length = N) : bs = (tabI N fun i => 4 * (wonD ks dp i : Int)).map (fq 2) := by
  apply List.ext_getElem (by rw [List.length_map, tabI_length, hl])
  intro i h1 h2
  have hiN : i < N := by rw [← hl]; exact h1
  have e2 := won_cell C hc hl hiN
  rw [List.getD_eq_getElem?_getD, List.getElem?_eq_getElem h1] at e2
  rw [map_fq_get, won_get hiN]; exact e2
theorem least_word {bs : List Nat} {ks : List Int} {wd hi dp M N : Nat} (C : Costs ks wd hi dp M N) (hc : bs.map fl = tab (hi * wd) (fun i => (fun x y => leastV dp (gc (ks.map (fq 2)) wd dp x y)) (i % wd) (i / wd))) (hl : bs.length = N) : bs = (tabI N fun i => ks.getD (i * dp + wonD ks dp i) 0).map (fq 2) := by
  apply List.ext_getElem (by rw [List.length_map, tabI_length, hl])
  intro i h1 h2
  have hiN : i < N := by rw [← hl]; exact h1
  obtain ⟨f, e, hf⟩ := map_word (q := 0) (h := leastV dp) hc hl C.hN C.hM C.hk C.w1 hiN
  have hw := C.won i
  have hb := C.nb (i * dp + wonD ks dp i)
  unfold leastV leastW at e
  rw [winW_congr dp hf, hw.eq, if_neg (by omega), Int.toNat_natCast, hf _ hw.lt, fl_fq (by omega)] at e
  have e2 := eq_of_flq (by omega) e
  rw [List.getD_eq_getElem?_getD, List.getElem?_eq_getElem h1] at e2
  have e3 : ((tabI N fun i => ks.getD (i * dp + wonD ks dp i) 0).map (fq 2))[i] = fq 2 (ks.getD (i * dp + wonD ks dp i) 0) := by simp [tabI]
  rw [e3]; exact e2
theorem fl_inf : fl 2139095040 = 2139095040 := by decide
theorem marg_word {bs : List Nat} {ks : List Int} {wd hi dp M N i : Nat} (C : Costs ks wd hi dp M N) (hc : bs.map fl = tab (hi * wd) (fun i => (fun x y => marginV dp (gc (ks.map (fq 2)) wd dp x y)) (i % wd) (i / wd))) (hl : bs.length = N) (hi_ : i < N) :
    lt32 (bs.getD i 0) 0 = false ∧ ∀ d, d < dp → d ≠ wonD ks dp i → lt32 (fq 2 (ks.getD (i * dp + d) 0 - ks.getD (i * dp + wonD ks dp i) 0)) (bs.getD i 0) = false := by
  obtain ⟨f, e, hf⟩ := map_word (q := 0) (h := marginV dp) hc hl C.hN C.hM C.hk C.w1 hi_
  unfold marginV at e
  rcases margin_q C.d1 C.nb f hf (C.won i) with ⟨h1, h2⟩ | ⟨z, h1, h2, h3, h4⟩
  · rw [h2] at e
    rw [← lt32_fl, e]
    refine ⟨by decide, fun d hd hne => ?_⟩
    have := (C.won i).lt
    omega
  · rw [h1] at e
    have e0 : (0 : Nat) = fq 2 0 := (fq_zero 2).symm
    refine ⟨?_, fun d hd hne => ?_⟩
    · rw [← lt32_fl, e, show fl 0 = fq 2 0 from by rw [← e0]; decide, lt32_fq (by omega) (by decide)]
      exact decide_eq_false (by omega)
    · have hb := C.nb (i * dp + d)
      have hb2 := C.nb (i * dp + wonD ks dp i)
      have := h4 d hd hne
      rw [← lt32_fl, e, fl_fq (by omega), lt32_fq (by omega) (by omega)]
      exact decide_eq_false (by omega)
theorem trust_word {bs : List Nat} {ks : List Int} {wd hi dp M N i : Nat} (C : Costs ks wd hi dp M N) (hc : bs.map fl = tab (hi * wd) (fun i => (fun x y => trustW dp (gc (ks.map (fq 2)) wd dp x y)) (i % wd) (i / wd))) (hl : bs.length = N) (hi_ : i < N) :
    lt32 (bs.getD i 0) 0 = false ∧ lt32 1065353216 (bs.getD i 0) = false := by
  obtain ⟨f, e, hf⟩ := map_word (q := 0) (h := trustW dp) hc hl C.hN C.hM C.hk C.w1 hi_
  have hw := C.won i
  have hb := C.bd (i * dp + wonD ks dp i)
  have hl2 : leastW f (winW f (-1) dp) = fq 2 (ks.getD (i * dp + wonD ks dp i) 0) := by
    unfold leastW
    rw [winW_congr dp hf, hw.eq, if_neg (by omega), Int.toNat_natCast, hf _ hw.lt]
  unfold trustW at e
  rw [hl2] at e
  have f0 : fl 0 = 0 := by decide
  have f1 : fl 1065353216 = 1065353216 := by decide
  rw [← lt32_fl, ← lt32_fl 1065353216, e, f0, f1]
  rcases margin_q C.d1 C.nb f hf hw with ⟨h1, h2⟩ | ⟨z, h1, h2, h3, h4⟩
  · rw [h2]
    unfold trustV
    rw [if_pos (by decide)]
    exact ⟨by decide, by decide⟩
  · rw [h1]
    exact trust_bd h2 h3 hb.1 (by omega)
theorem sharp_word {bs : List Nat} {ks : List Int} {wd hi dp M N i : Nat} (C : Costs ks wd hi dp M N) (hc : bs.map fl = tab (hi * wd) (fun i => (fun x y => sharpW dp (gc (ks.map (fq 2)) wd dp x y)) (i % wd) (i / wd))) (hl : bs.length = N) (hi_ : i < N) (w : World) : NearWord (bs.getD i 0) (wonD ks dp i) := by
  obtain ⟨f, e, hf⟩ := map_word (q := 0) (h := sharpW dp) hc hl C.hN C.hM C.hk C.w1 hi_
  have hw := C.won i
  have hn := sharp_near (f := f) (D := wonD ks dp i) (by have := C.d8; omega) (by rw [winW_congr dp hf]; exact hw.eq) hw.lt w
  rw [← e] at hn
  have h1 : nan32 (bs.getD i 0) = false := by rw [← nan32_fl]; exact hn.1
  rwa [fl_eq h1] at hn

end Go.Proofs.Ytdeikjiflinkhaa
