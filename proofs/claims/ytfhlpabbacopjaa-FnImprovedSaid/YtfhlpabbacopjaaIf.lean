/- Jumps of a map; whole maps alike. -/
import Derived.Test.YtfhlpabbacopjaaIe
namespace Go.Proofs.Ytfhlpabbacopjaa
open Go.RowKit
set_option maxRecDepth 100000
set_option linter.unusedVariables false
set_option linter.unusedSimpArgs false

theorem wW_sm {a b : Nat} (ha : a ≤ 1000) (hb : b ≤ 1000) : sm (wW a) (wW b) = decide (a = b) := by
  unfold sm
  rw [← wW_def, ← wW_def, fl_fq (by omega), fl_fq (by omega)]
  by_cases h : a = b
  · rw [decide_eq_true h, h]; exact decide_eq_true rfl
  · rw [decide_eq_false h]
    refine decide_eq_false fun e => h ?_
    have := fq_inj (by omega) (by omega) e
    omega

theorem eqFunc_w (w : World) (q c q2 c2 n dp : Nat) (ms ms2 : List Nat) (hn : n ≤ 1000) (hd : dp ≤ 1000) (h1 : WM w q c n ms dp) (h2 : WM w q2 c2 n ms2 dp) :
    Calls Try.prog 90 #[.slice (some ⟨q, 0, none⟩) n c, .slice (some ⟨q2, 0, none⟩) n c2, .func (.func 91) #[] #[]] w fun e w' => e = .returned (.bool (decide (ms = ms2))) ∧ w = w' := by
  have hz : ∀ i : Nat, i < n → w.cell? ⟨q, 0 + i, none⟩ = some (.float .f32 (wW (ms.getD i 0))) ∧ wW (ms.getD i 0) < 4294967296 ∧ w.cell? ⟨q2, 0 + i, none⟩ = some (.float .f32 (wW (ms2.getD i 0))) ∧ wW (ms2.getD i 0) < 4294967296 ∧ sm (wW (ms.getD i 0)) (wW (ms2.getD i 0)) = decide (ms.getD i 0 = ms2.getD i 0) := by
    intro i hi
    have k1 := h1.sl.at i (by rw [List.length_map, h1.len]; exact hi)
    have k2 := h2.sl.at i (by rw [List.length_map, h2.len]; exact hi)
    rw [wW_get (by rw [h1.len]; exact hi)] at k1
    rw [wW_get (by rw [h2.len]; exact hi)] at k2
    have b1 := h1.mb hi
    have b2 := h2.mb hi
    exact ⟨k1.1, k1.2, k2.1, k2.2, wW_sm (by omega) (by omega)⟩
  have HL := Lib.hid (And.intro h1.len h2.len)
  clear h1 h2
  go_enter Try.func90, Try.ntmps90
  go_wp2_with fail
  go_loop [17] (fun v17 => ∃ i : Nat, v17 = .int .i64 i ∧ i ≤ n ∧ ∀ j, j < i → ms.getD j 0 = ms2.getD j 0) (fun v17 => n - (intOf v17).toNat)
  case atStart => exact ⟨0, rfl, Nat.zero_le _, fun j hj => by omega⟩
  case round =>
    obtain ⟨i, rfl, hi, hal⟩ := hrel
    have HAL := Lib.hid hal
    clear hal
    by_cases hlt : i < n
    · obtain ⟨k1, k2, k3, k4, k5⟩ := hz i hlt
      rw [Nat.zero_add] at k1 k3
      by_cases he : ms.getD i 0 = ms2.getD i 0
      · rw [decide_eq_true he] at k5
        have HE := Lib.hid he
        generalize wW (ms.getD i 0) = a at *
        generalize wW (ms2.getD i 0) = b at *
        clear hz he
        go_wp2_with fail
        refine (same_any _ _ _ k2 k4).mono ?_
        rw [k5]
        rintro e w' ⟨rfl, rfl⟩
        go_wp2
        go_round
        case rel => exact ⟨i + 1, by go_num, by omega, fun j hj => by
          by_cases g : j = i
          · rw [g]; exact HE.out
          · exact HAL.out j (by omega)⟩
        case measure => simp [intOf]; omega
      · rw [decide_eq_false he] at k5
        have hne : decide (ms = ms2) = false := decide_eq_false fun g => he (by rw [g])
        have HNE := Lib.hid hne
        generalize wW (ms.getD i 0) = a at *
        generalize wW (ms2.getD i 0) = b at *
        clear hz he hne
        go_wp2_with fail
        refine (same_any _ _ _ k2 k4).mono ?_
        rw [k5]
        rintro e w' ⟨rfl, rfl⟩
        go_wp2
        go_ret
        exact ⟨by rw [HNE.out]; rfl, rfl⟩
    · have hin : i = n := by omega
      have heq : decide (ms = ms2) = true := by
        refine decide_eq_true (List.ext_getElem (by rw [HL.out.1, HL.out.2]) fun j g1 g2 => ?_)
        have := HAL.out j (by rw [hin, ← HL.out.1]; exact g1)
        rw [List.getD_eq_getElem?_getD, List.getD_eq_getElem?_getD, List.getElem?_eq_getElem g1, List.getElem?_eq_getElem g2] at this
        exact this
      have HEQ := Lib.hid heq
      clear hz heq hin
      go_wp2
      go_ret
      exact ⟨by rw [HEQ.out]; rfl, rfl⟩

theorem sameMap_w (w : World) (wd hi q c q2 c2 n dp : Nat) (ms ms2 : List Nat) (hn : n ≤ 1000) (hd : dp ≤ 1000) (h1 : WM w q c n ms dp) (h2 : WM w q2 c2 n ms2 dp) :
    Calls Try.prog 28 #[.agg #[.int .i64 wd, .int .i64 hi, .slice (some ⟨q, 0, none⟩) n c], .agg #[.int .i64 wd, .int .i64 hi, .slice (some ⟨q2, 0, none⟩) n c2]] w fun e w' => e = .returned (.bool (decide (ms = ms2))) ∧ Below w.heap.size w w' := by
  have hb := below_two w (.cells #[.int .i64 wd, .int .i64 hi, .slice (some ⟨q, 0, none⟩) n c] 48) (.cells #[.int .i64 wd, .int .i64 hi, .slice (some ⟨q2, 0, none⟩) n c2] 48)
  have KE := Lib.hid (fun W (hW : Below w.heap.size w W) => eqFunc_w W q c q2 c2 n dp ms ms2 hn hd (h1.below hW) (h2.below hW))
  have K : ∀ W, Below w.heap.size w W → Calls Try.prog 51 #[.slice (some ⟨q, 0, none⟩) n c, .slice (some ⟨q2, 0, none⟩) n c2] W fun e w' => e = .returned (.bool (decide (ms = ms2))) ∧ W = w' := by
    intro W hW
    have K1 := Lib.hid (KE.out W hW)
    clear h1 h2 hb
    generalize decide (ms = ms2) = bb at *
    go_enter Try.func51, Try.ntmps51
    go_wp2_with fail
    refine K1.out.mono ?_
    rintro e w' ⟨rfl, rfl⟩
    go_wp2
    go_ret
    exact ⟨rfl, rfl⟩
  have K := Lib.hid (K _ hb)
  have HB := Lib.hid hb
  clear h1 h2 hb
  generalize decide (ms = ms2) = bb at *
  go_enter Try.func28, Try.ntmps28
  go_wp2_with fail
  refine K.out.mono ?_
  rintro e w' ⟨rfl, rfl⟩
  go_wp2
  go_ret
  exact ⟨by simp, HB.out⟩

/-- Three counters. -/
def sum3 (ks : List Int) : Int := ks.getD 0 0 + ks.getD 1 0 + ks.getD 2 0
theorem sum3_set {ks : List Int} (hl : ks.length = 3) {k : Nat} (hk : k ≤ 2) (z : Int) : sum3 (ks.set k (ks.getD k 0 + z)) = sum3 ks + z := by
  match ks, hl with
  | [a, b, c], _ =>
    have : k = 0 ∨ k = 1 ∨ k = 2 := by omega
    rcases this with rfl | rfl | rfl
    · show (a + z) + b + c = a + b + c + z; omega
    · show a + (b + z) + c = a + b + c + z; omega
    · show a + b + (c + z) = a + b + c + z; omega
theorem nonneg_set {ks : List Int} {k : Nat} (h : ∀ i, 0 ≤ ks.getD i 0) : ∀ i, 0 ≤ (ks.set k (ks.getD k 0 + 1)).getD i 0 := by
  intro i
  have h1 := h i
  have h2 := h k
  generalize ks.getD k 0 = z at *
  rw [List.getD_eq_getElem?_getD] at h1 ⊢
  rw [List.getElem?_set]
  by_cases e : k = i
  · rw [if_pos e]
    by_cases g : k < ks.length
    · rw [if_pos g]; show 0 ≤ z + 1; omega
    · rw [if_neg g]; exact Int.le_refl _
  · rw [if_neg e]; exact h1

theorem count_any (W : World) (B ob g : Nat) (ks : List Int) (A C : Nat) (hA : A ≤ 100) (hC : C ≤ 100) (hb : BoxN W ob #[.slice (some ⟨g, 0, none⟩) 3 3] 42) (ho : OwnI W B (.slice (some ⟨g, 0, none⟩) 3 3) ks) (hk : ∀ i, 0 ≤ ks.getD i 0) (hs : sum3 ks ≤ 10000) (hne : ob ≠ g) :
    Calls Try.prog 67 #[.int .i64 A, .int .i64 C, .pointer (some ⟨ob, 0, none⟩)] W fun e w' => (∃ v, e = .returned v) ∧ ∃ ks2, sum3 ks2 = sum3 ks + 1 ∧ (∀ i, 0 ≤ ks2.getD i 0) ∧ OwnI w' B (.slice (some ⟨g, 0, none⟩) 3 3) ks2 ∧ W.grownBy w' (some g) := by
  obtain ⟨l1, l2, l3⟩ := ho.len
  have zb := hb.cell 0
  simp only [List.size_toArray, List.length_cons, List.length_nil, List.getElem?_toArray, List.getElem?_cons_zero] at zb
  have FACT0 : ∀ k : Nat, k ≤ 2 → W.cell? ⟨g, k, none⟩ = some (.int .i64 (ks.getD k 0)) ∧ W.frozen? ⟨g, k, none⟩ = false ∧ 0 ≤ ks.getD k 0 ∧ ks.getD k 0 ≤ 10000 ∧ OwnI (W.setCell ⟨g, k, none⟩ (.int .i64 (ks.getD k 0 + 1))) B (.slice (some ⟨g, 0, none⟩) 3 3) (ks.set k (ks.getD k 0 + 1)) ∧ sum3 (ks.set k (ks.getD k 0 + 1)) = sum3 ks + 1 ∧ ∀ i, 0 ≤ (ks.set k (ks.getD k 0 + 1)).getD i 0 := by
    intro k hk2
    refine ⟨ho.cellAt k (by omega), ho.free k, hk k, ?_, ho.put k _, sum3_set l1 hk2 1, nonneg_set hk⟩
    have h0 := hk 0; have h1 := hk 1; have h2 := hk 2
    unfold sum3 at hs
    have e3 : k = 0 ∨ k = 1 ∨ k = 2 := by omega
    rcases e3 with rfl | rfl | rfl <;> omega
  have FACT := Lib.hid FACT0
  clear FACT0
  clear hs hk l1 l2 l3 ho hb
  by_cases g1 : (A : Int) - C < (C : Int) - A
  · by_cases g2 : (2 : Int) < (C : Int) - A
    · skip
      obtain ⟨c1, f1, v0, v1, hp, hs2, hn2⟩ := FACT.out (2) (by omega)
      obtain ⟨v, hvv⟩ : ∃ v, ks.getD (2) 0 = v := ⟨_, rfl⟩
      rw [hvv] at c1 v0 v1 hp hs2; simp only [hvv] at hn2
      have HPUT := Lib.hid hp
      have HS2 := Lib.hid hs2
      have HN2 := Lib.hid hn2
      have k3 : (2 : Int) < 3 := by omega
      have k4 : 0 ≤ (2 : Int) := by omega
      clear hp hs2 hn2 hvv
      go_enter Try.func67, Try.ntmps67
      go_wp2_with fail
      go_wp2
      go_end0
      refine ⟨⟨_, rfl⟩, _, HS2.out, HN2.out, ?_, grown_setCell _ _ _⟩
      first | exact HPUT.out | (have := HPUT.out; simpa using this)
    · skip
      obtain ⟨c1, f1, v0, v1, hp, hs2, hn2⟩ := FACT.out (C - A) (by omega)
      obtain ⟨v, hvv⟩ : ∃ v, ks.getD (C - A) 0 = v := ⟨_, rfl⟩
      rw [hvv] at c1 v0 v1 hp hs2; simp only [hvv] at hn2
      have HPUT := Lib.hid hp
      have HS2 := Lib.hid hs2
      have HN2 := Lib.hid hn2
      have k3 : ((C : Int) - A) < 3 := by omega
      have k4 : 0 ≤ ((C : Int) - A) := by omega
      clear hp hs2 hn2 hvv
      go_enter Try.func67, Try.ntmps67
      go_wp2_with fail
      go_wp2
      go_end0
      refine ⟨⟨_, rfl⟩, _, HS2.out, HN2.out, ?_, grown_setCell _ _ _⟩
      first | exact HPUT.out | (have := HPUT.out; simpa using this)
  · by_cases g2 : (2 : Int) < (A : Int) - C
    · skip
      obtain ⟨c1, f1, v0, v1, hp, hs2, hn2⟩ := FACT.out (2) (by omega)
      obtain ⟨v, hvv⟩ : ∃ v, ks.getD (2) 0 = v := ⟨_, rfl⟩
      rw [hvv] at c1 v0 v1 hp hs2; simp only [hvv] at hn2
      have HPUT := Lib.hid hp
      have HS2 := Lib.hid hs2
      have HN2 := Lib.hid hn2
      have k3 : (2 : Int) < 3 := by omega
      have k4 : 0 ≤ (2 : Int) := by omega
      clear hp hs2 hn2 hvv
      go_enter Try.func67, Try.ntmps67
      go_wp2_with fail
      go_wp2
      go_end0
      refine ⟨⟨_, rfl⟩, _, HS2.out, HN2.out, ?_, grown_setCell _ _ _⟩
      first | exact HPUT.out | (have := HPUT.out; simpa using this)
    · skip
      obtain ⟨c1, f1, v0, v1, hp, hs2, hn2⟩ := FACT.out (A - C) (by omega)
      obtain ⟨v, hvv⟩ : ∃ v, ks.getD (A - C) 0 = v := ⟨_, rfl⟩
      rw [hvv] at c1 v0 v1 hp hs2; simp only [hvv] at hn2
      have HPUT := Lib.hid hp
      have HS2 := Lib.hid hs2
      have HN2 := Lib.hid hn2
      have k3 : ((A : Int) - C) < 3 := by omega
      have k4 : 0 ≤ ((A : Int) - C) := by omega
      clear hp hs2 hn2 hvv
      go_enter Try.func67, Try.ntmps67
      go_wp2_with fail
      go_wp2
      go_end0
      refine ⟨⟨_, rfl⟩, _, HS2.out, HN2.out, ?_, grown_setCell _ _ _⟩
      first | exact HPUT.out | (have := HPUT.out; simpa using this)

end Go.Proofs.Ytfhlpabbacopjaa
