/- sharp and trust of a cell's costs: words. -/
import Derived.Test.YtdeikjiflinkhaaWc
import Derived.Test.YtdeikjiflinkhaaPb
import Derived.Deep.Cut
namespace Go.Proofs.Ytdeikjiflinkhaa
open Go.RowKit
set_option maxRecDepth 100000
set_option linter.unusedVariables false
set_option linter.unusedSimpArgs false

/-- The disparity between those of the costs around the winner. -/
def sharpQ (a b c : Nat) : Nat := fop .quo (fop .sub (fl a) (fl c)) (fop .add (fop .sub (fl a) (fl b)) (fop .sub (fl c) (fl b)))
def sharpW (n : Nat) (f : Nat → Nat) : Nat :=
  if winW f (-1) n ≤ 0 ∨ winW f (-1) n = (n : Int) - 1 then fq 0 (winW f (-1) n)
  else if le32 3212836864 (sharpQ (f ((winW f (-1) n).toNat - 1)) (f (winW f (-1) n).toNat) (f ((winW f (-1) n).toNat + 1))) && le32 (sharpQ (f ((winW f (-1) n).toNat - 1)) (f (winW f (-1) n).toNat) (f ((winW f (-1) n).toNat + 1))) 1065353216 then
    fop .add (fq 0 (winW f (-1) n)) (fop .mul 1056964608 (sharpQ (f ((winW f (-1) n).toNat - 1)) (f (winW f (-1) n).toNat) (f ((winW f (-1) n).toNat + 1))))
  else fq 0 (winW f (-1) n)

set_option maxHeartbeats 1000000 in
theorem sharp_any (W : World) (b off n c : Nat) (f : Nat → Nat) (hn : n ≤ 4096) (h : Row W b off n f) :
    Calls Try.prog 56 #[.slice (some ⟨b, off, none⟩) n c] W fun e w' => ∃ r, e = .returned (.float .f32 r) ∧ r < 4294967296 ∧ fl r = sharpW n f ∧ ∃ m, w' = W.drewN m := by
  have HR := Lib.hid h
  obtain ⟨p1, p2⟩ := winW_bd f (-1) n
  have K1 := Lib.hid (winner_any W b off n c f (-1) hn (by omega) (by omega) h)
  have hof := fq_ofInt (n := winW f (-1) n) (by omega)
  have hlt := fq_lt (g := 0) (k := winW f (-1) n) (by omega)
  have hfl := fl_fq (g := 0) (k := winW f (-1) n) (by omega)
  unfold sharpW
  obtain ⟨d, hd⟩ : ∃ d, d = winW f (-1) n := ⟨_, rfl⟩
  rw [← hd] at K1 p1 p2 hof hlt hfl ⊢
  have HFL := Lib.hid hfl
  clear hd h hfl
  by_cases h1 : d ≤ 0
  · rw [if_pos (.inl h1)]
    go_enter Try.func56, Try.ntmps56
    go_wp2_with fail
    refine K1.out.mono ?_
    rintro e w1 ⟨rfl, m, rfl⟩
    go_wp2
    go_ret
    exact ⟨_, rfl, hlt, HFL.out, m, rfl⟩
  · obtain ⟨j, rfl⟩ := Int.eq_ofNat_of_zero_le (show 0 ≤ d by omega)
    by_cases h2 : (j : Int) = (n : Int) - 1
    · rw [if_pos (.inr h2)]
      have h3 : ((j : Int) == (n : Int) - 1) = true := by rw [beq_iff_eq]; exact h2
      have H2 := Lib.hid h2
      clear h2
      go_enter Try.func56, Try.ntmps56
      go_wp2_with fail
      refine K1.out.mono ?_
      rintro e w1 ⟨rfl, m, rfl⟩
      go_wp2
      go_ret
      exact ⟨_, rfl, hlt, HFL.out, m, rfl⟩
    · rw [if_neg (by omega)]
      have h3 : ((j : Int) == (n : Int) - 1) = false := by rw [beq_eq_false_iff_ne]; exact h2
      obtain ⟨i, hi⟩ : ∃ i, i = j - 1 := ⟨_, rfl⟩
      obtain ⟨k, hk⟩ : ∃ k, k = j + 1 := ⟨_, rfl⟩
      obtain ⟨ca, la⟩ := HR.out i (by omega)
      obtain ⟨cb, lb⟩ := HR.out j (by omega)
      obtain ⟨cc, lc⟩ := HR.out k (by omega)
      rw [Int.toNat_natCast, ← hi, ← hk]
      have e1 : IntKind.i64.wrap ((j : Int) - 1) = (i : Int) := by rw [IntWalk.i64_in _ (by omega)]; omega
      have e2 : IntKind.i64.wrap ((j : Int) + 1) = (k : Int) := by rw [IntWalk.i64_in _ (by omega)]; omega
      have e3 : (i : Int) < n := by omega
      have e4 : (j : Int) < n := by omega
      have e5 : (k : Int) < n := by omega
      generalize f i = a at *
      generalize f j = bb at *
      generalize f k = cw at *
      have e6 : ¬ (j : Int) ≤ 0 := h1
      have e7 : decide ((j : Int) ≤ 0) = false := decide_eq_false h1
      clear hi hk h2
      cases hc : (le32 3212836864 (sharpQ a bb cw) && le32 (sharpQ a bb cw) 1065353216)
      all_goals
        go_enter Try.func56, Try.ntmps56
        go_wp2_with fail
        refine K1.out.mono ?_
        rintro e w1 ⟨rfl, m, rfl⟩
        go_wp2_with fail
        go_quiet (fail)
        clear e1 e2
        go_upto_region 7 with (fail)
        generalize hX : fres BinOp.quo _ _ _ _ = q at *
        have hfq : fl q = sharpQ a bb cw := by rw [← hX, fl_fres, fl_fres, fl_fres, fl_fres, fl_fres]; rfl
        have l1 : le32 3212836864 q = le32 3212836864 (sharpQ a bb cw) := by rw [← hfq, ← le32_fl 3212836864 (fl q), fl_fl, ← le32_fl 3212836864 q]
        have l2 : le32 q 1065353216 = le32 (sharpQ a bb cw) 1065353216 := by rw [← hfq, ← le32_fl (fl q) 1065353216, fl_fl, ← le32_fl q 1065353216]
        rw [← l1, ← l2] at hc
        have HQ := Lib.hid hfq
        have hql : q < 4294967296 := by rw [← hX]; exact fres_lt _ _ _ _
        clear hX hfq l1 l2
        cases t1 : le32 3212836864 q
        all_goals
          cases t2 : le32 q 1065353216
          all_goals
            rw [t1, t2] at hc
            first
              | (simp at hc; done)
              | (go_wp2
                 go_ret
                 first
                   | exact ⟨_, rfl, hlt, HFL.out, _, rfl⟩
                   | exact ⟨_, rfl, fres_lt _ _ _ _, by rw [fl_fres, fl_fres, HFL.out, HQ.out]; rfl, _, rfl⟩)

theorem fin32_fl (b : Nat) : fin32 (fl b) = fin32 b := by
  cases h : nan32 b
  · rw [fl_eq h]
  · rw [fl_nan h]
    cases h2 : fin32 b
    · decide
    · rw [nan_of_fin32 h2] at h; cases h
def trustV (mg lw : Nat) : Nat :=
  if (!fin32 mg && !nan32 mg) = true then 1065353216
  else if nan32 (fop .quo mg (fop .add mg (fl lw))) = true then 0
  else fop .quo mg (fop .add mg (fl lw))
def trustW (n : Nat) (f : Nat → Nat) : Nat := trustV (marginW f n) (leastW f (winW f (-1) n))
theorem marginW_fl (f : Nat → Nat) (n : Nat) : fl (marginW f n) = marginW f n := by
  unfold marginW
  split
  · decide
  · unfold fop
    split
    · exact fl_fl _
    · decide

set_option maxHeartbeats 1000000 in
theorem trust1_any (W : World) (b off n : Nat) (f : Nat → Nat) (hn : n ≤ 4096) (h : Row W b off n f) :
    Calls Try.prog 52 #[.slice (some ⟨b, off, none⟩) n n] W fun e w' => ∃ r, e = .returned (.float .f32 r) ∧ r < 4294967296 ∧ fl r = trustW n f ∧ ∃ m, w' = W.drewN m := by
  obtain ⟨p1, p2⟩ := winW_bd f (-1) n
  have KM := Lib.hid (margin_any W b off n n f hn h)
  have KW := Lib.hid (fun k => winner_any (W.drewN k) b off n n f (-1) hn (by omega) (by omega) (h.drewN k))
  have KL := Lib.hid (fun k => least_any (W.drewN k) b off n n f (winW f (-1) n) hn p1 p2 (h.drewN k))
  have hll : leastW f (winW f (-1) n) < 4294967296 := by
    unfold leastW
    split
    · decide
    · exact (h _ (by omega)).2
  have hmf := marginW_fl f n
  unfold trustW
  generalize winW f (-1) n = wn at *
  generalize leastW f wn = lw at *
  generalize marginW f n = mg at *
  have HMF := Lib.hid hmf
  clear h p1 p2 hmf
  cases hc : (!fin32 mg && !nan32 mg)
  · have HHC := Lib.hid hc
    go_enter Try.func52, Try.ntmps52
    go_wp2_with fail
    refine KM.out.mono ?_
    rintro e w1 ⟨r, rfl, hr, hrf, m, rfl⟩
    go_wp2_with fail
    refine (isFinite_any _ _).mono ?_
    have hfr : fin32 r = fin32 mg := by rw [← hrf, fin32_fl]
    have hnr : nan32 r = nan32 mg := by rw [← hrf, nan32_fl]
    rw [hfr]
    rintro e w2 ⟨rfl, m2, rfl⟩
    have HRF := Lib.hid hrf
    clear hrf
    cases hf : fin32 mg
    · rw [hf] at hc
      have hnm : nan32 mg = true := by simpa using hc
      rw [hnm] at hnr
      go_wp2_with fail
      refine (isNumber_any _ _).mono ?_
      rw [hnr]
      rintro e w3 ⟨rfl, rfl⟩
      go_wp2_with fail
      refine (KW.out _).mono ?_
      rintro e w4 ⟨rfl, m3, rfl⟩
      go_wp2_with fail
      refine (KL.out _).mono ?_
      rintro e w5 ⟨rfl, rfl⟩
      go_upto_region 5 with (fail)
      generalize hX : fres BinOp.quo _ _ _ _ = q at *
      have hfq : fl q = fop .quo mg (fop .add mg (fl lw)) := by rw [← hX, fl_fres, fl_fres, HRF.out]
      have hnq : nan32 q = nan32 (fop .quo mg (fop .add mg (fl lw))) := by rw [← hfq, nan32_fl]
      have hql : q < 4294967296 := by rw [← hX]; exact fres_lt _ _ _ _
      have HFQ := Lib.hid hfq
      have HNQ := Lib.hid hnq
      clear hX hfq hnq
      cases t1 : nan32 q
      all_goals
        go_wp2_with fail
        refine (isNaN_any _ _).mono ?_
        rw [t1]
        rintro e w6 ⟨rfl, rfl⟩
        go_wp2
        go_ret
        have h9 := HNQ.out
        rw [t1] at h9
        first
          | exact ⟨_, rfl, hql, by unfold trustV; rw [HHC.out, if_neg (by simp), if_neg (by rw [← h9]; simp), HFQ.out], _, rfl⟩
          | exact ⟨_, rfl, by decide, by unfold trustV; rw [HHC.out, if_neg (by simp), if_pos h9.symm]; decide, _, rfl⟩
    · clear hc
      go_wp2_with fail
      refine (KW.out _).mono ?_
      rintro e w4 ⟨rfl, m3, rfl⟩
      go_wp2_with fail
      refine (KL.out _).mono ?_
      rintro e w5 ⟨rfl, rfl⟩
      go_upto_region 5 with (fail)
      generalize hX : fres BinOp.quo _ _ _ _ = q at *
      have hfq : fl q = fop .quo mg (fop .add mg (fl lw)) := by rw [← hX, fl_fres, fl_fres, HRF.out]
      have hnq : nan32 q = nan32 (fop .quo mg (fop .add mg (fl lw))) := by rw [← hfq, nan32_fl]
      have hql : q < 4294967296 := by rw [← hX]; exact fres_lt _ _ _ _
      have HFQ := Lib.hid hfq
      have HNQ := Lib.hid hnq
      clear hX hfq hnq
      cases t1 : nan32 q
      all_goals
        go_wp2_with fail
        refine (isNaN_any _ _).mono ?_
        rw [t1]
        rintro e w6 ⟨rfl, rfl⟩
        go_wp2
        go_ret
        have h9 := HNQ.out
        rw [t1] at h9
        first
          | exact ⟨_, rfl, hql, by unfold trustV; rw [HHC.out, if_neg (by simp), if_neg (by rw [← h9]; simp), HFQ.out], _, rfl⟩
          | exact ⟨_, rfl, by decide, by unfold trustV; rw [HHC.out, if_neg (by simp), if_pos h9.symm]; decide, _, rfl⟩
  · have h1 : fin32 mg = false := by cases h : fin32 mg <;> simp [h] at hc <;> rfl
    have h2 : nan32 mg = false := by cases h : nan32 mg <;> simp [h] at hc <;> rfl
    go_enter Try.func52, Try.ntmps52
    go_wp2_with fail
    refine KM.out.mono ?_
    rintro e w1 ⟨r, rfl, hr, hrf, m, rfl⟩
    go_wp2_with fail
    refine (isFinite_any _ _).mono ?_
    rw [show fin32 r = false from by rw [← fin32_fl, hrf]; exact h1]
    rintro e w2 ⟨rfl, m2, rfl⟩
    have hn2 : nan32 r = false := by rw [← nan32_fl, hrf]; exact h2
    clear hrf
    go_wp2_with fail
    refine (isNumber_any _ _).mono ?_
    rw [hn2]
    rintro e w3 ⟨rfl, rfl⟩
    go_wp2
    go_ret
    exact ⟨_, rfl, by decide, by unfold trustV; rw [hc, if_pos rfl]; decide, _, rfl⟩

end Go.Proofs.Ytdeikjiflinkhaa
