/- All ways, all rows: plain. -/
import Derived.Test.YtfhlpabbacopjaaJl
import Derived.Test.YtfhlpabbacopjaaJm
namespace Go.Proofs.Ytfhlpabbacopjaa
open Go.RowKit
set_option maxRecDepth 100000
set_option linter.unusedVariables false
set_option linter.unusedSimpArgs false

theorem least_unique {n : Nat} {f : Nat → Int} {a b : Int} (ha : ∀ e, e < n → a ≤ f e) (ha' : ∃ e, e < n ∧ a = f e) (hb : ∀ e, e < n → b ≤ f e) (hb' : ∃ e, e < n ∧ b = f e) : a = b := by
  obtain ⟨i, hi, ei⟩ := ha'
  obtain ⟨j, hj, ej⟩ := hb'
  have h1 := ha j hj
  have h2 := hb i hi
  omega
theorem want_fst (ks : List Int) (one more : Int) (d n : Nat) (hd : d < n) (hn : 1 ≤ n) : wantI ks one more d n = (tabI n fun e => ks.getD e 0 + prI one more e d).getD (fstA (tabI n fun e => ks.getD e 0 + prI one more e d) n) 0 := by
  have hf := fstA_ok (tabI n fun e => ks.getD e 0 + prI one more e d) n hn
  refine least_unique (n := n) (f := fun e => ks.getD e 0 + prI one more e d) (fun e he => wantI_le ks one more d n e he) ?_ (fun e he => ?_) ⟨_, hf.1, tabI_get hf.1⟩
  · rcases wantI_is ks one more d n with h | h
    · exact ⟨d, hd, by rw [h]; show _ = ks.getD d 0 + prI one more d d; unfold prI; rw [if_pos rfl]; omega⟩
    · exact h
  · have := hf.2.1 e he
    rw [tabI_get he] at this
    exact this
/-- A step of all ways. -/
theorem raw_step {C : Nat → Nat → Int} {one more : Int} {dp x d : Nat} {own b : List Int} (h1 : 0 ≤ one) (h2 : one ≤ more) (hd : d < dp) (hp : 1 ≤ dp) (hl : own.length = dp) (hb : b.length = dp) (hg : ∀ e, e < dp → b.getD e 0 = dpG C (prI one more) dp x e) (ho : own.getD d 0 = C (x + 1) d) :
    (rawF one more own b).getD d 0 = dpG C (prI one more) dp (x + 1) d := by
  rw [rawF_get _ _ _ _ _ (by rw [hl]; exact hd), want_jump h1 h2 (by rw [hb]; exact hd), hb, want_fst b one more d dp hd hp, ho, dpG_succ]
  have e : (tabI dp fun e => b.getD e 0 + prI one more e d) = dpW C (prI one more) dp x d := by
    unfold dpW tabI
    exact List.map_congr_left fun e he => by rw [hg e (List.mem_range.1 he)]
  rw [e]
  rfl
theorem raw_right {own P : Int → Int → List Int} {one more : Int} {wd hi dp : Nat} (h : IsAlong (rawG one more) own (wayX 0) (wayY 0) wd hi P) (h1 : 0 ≤ one) (h2 : one ≤ more) (hp : 1 ≤ dp) (hl : ∀ x y, insI x y wd hi → (own x y).length = dp) (hP : ∀ x y, insI x y wd hi → (P x y).length = dp) {y : Nat} (hy : y < hi) :
    ∀ x : Nat, x < wd → ∀ d, d < dp → (P x y).getD d 0 = dpG (CY own y) (prI one more) dp x d := by
  intro x
  induction x with
  | zero =>
    intro hx d hd
    have hin : insI ((0 : Nat) : Int) (y : Int) wd hi := by unfold insI; omega
    have := h _ _ hin
    rw [if_neg (by show ¬ insI (((0 : Nat) : Int) - 1) _ _ _; unfold insI; omega)] at this
    rw [this]; rfl
  | succ x ih =>
    intro hx d hd
    have hin : insI ((x + 1 : Nat) : Int) (y : Int) wd hi := by unfold insI; omega
    have hin0 : insI (x : Int) (y : Int) wd hi := by unfold insI; omega
    have := h _ _ hin
    have e1 : ((x + 1 : Nat) : Int) - wayX 0 = x := by show ((x + 1 : Nat) : Int) - 1 = x; omega
    have e2 : (y : Int) - wayY 0 = y := by show (y : Int) - 0 = y; omega
    rw [e1, e2, if_pos hin0] at this
    rw [this]
    exact raw_step h1 h2 hd hp (hl _ _ hin) (hP _ _ hin0) (fun e he => ih (by omega) e he) rfl
theorem raw_left {own P : Int → Int → List Int} {one more : Int} {wd hi dp : Nat} (h : IsAlong (rawG one more) own (wayX 1) (wayY 1) wd hi P) (h1 : 0 ≤ one) (h2 : one ≤ more) (hp : 1 ≤ dp) (hl : ∀ x y, insI x y wd hi → (own x y).length = dp) (hP : ∀ x y, insI x y wd hi → (P x y).length = dp) {y : Nat} (hy : y < hi) (hw : 1 ≤ wd) :
    ∀ j : Nat, j ≤ wd - 1 → ∀ d, d < dp → (P (wd - 1 - j : Nat) y).getD d 0 = dpG (fun k d => CY own y (wd - 1 - k) d) (prI one more) dp j d := by
  intro j
  induction j with
  | zero =>
    intro hx d hd
    have hin : insI ((wd - 1 - 0 : Nat) : Int) (y : Int) wd hi := by unfold insI; omega
    have := h _ _ hin
    rw [if_neg (by show ¬ insI (((wd - 1 - 0 : Nat) : Int) - (-1)) _ _ _; unfold insI; omega)] at this
    rw [this]; rfl
  | succ j ih =>
    intro hx d hd
    have hin : insI ((wd - 1 - (j + 1) : Nat) : Int) (y : Int) wd hi := by unfold insI; omega
    have hin0 : insI ((wd - 1 - j : Nat) : Int) (y : Int) wd hi := by unfold insI; omega
    have := h _ _ hin
    have e1 : ((wd - 1 - (j + 1) : Nat) : Int) - wayX 1 = ((wd - 1 - j : Nat) : Int) := by show ((wd - 1 - (j + 1) : Nat) : Int) - (-1) = _; omega
    have e2 : (y : Int) - wayY 1 = y := by show (y : Int) - 0 = y; omega
    rw [e1, e2, if_pos hin0] at this
    rw [this]
    exact raw_step h1 h2 hd hp (hl _ _ hin) (hP _ _ hin0) (fun e he => ih (by omega) e he) rfl

/-- The digits of a number. -/
def dig (dp k i : Nat) : Nat := k / dp ^ i % dp
theorem dig_lt {dp k i : Nat} (h : 1 ≤ dp) : dig dp k i < dp := Nat.mod_lt _ h
theorem dig_code (dp : Nat) (h : 1 ≤ dp) (v : Nat → Nat) : ∀ n, (∀ i, i < n → v i < dp) → ∃ k, k < dp ^ n ∧ ∀ i, i < n → dig dp k i = v i := by
  intro n
  induction n with
  | zero => intro _; exact ⟨0, by simp, fun i hi => by omega⟩
  | succ n ih =>
    intro hv
    obtain ⟨k, hk, hd⟩ := ih (fun i hi => hv i (by omega))
    have hpos : 0 < dp ^ n := Nat.pow_pos h
    refine ⟨k + dp ^ n * v n, ?_, fun i hi => ?_⟩
    · rw [Nat.pow_succ]
      have := hv n (by omega)
      calc k + dp ^ n * v n < dp ^ n + dp ^ n * v n := by omega
        _ = dp ^ n * (v n + 1) := by rw [Nat.mul_add, Nat.mul_one, Nat.add_comm]
        _ ≤ dp ^ n * dp := Nat.mul_le_mul_left _ this
    · unfold dig
      by_cases e : i = n
      · subst e
        rw [Nat.add_mul_div_left _ _ hpos, Nat.div_eq_of_lt hk, Nat.zero_add, Nat.mod_eq_of_lt (hv i (by omega))]
      · have hin : i < n := by omega
        have hs : dp ^ n = dp ^ i * (dp * dp ^ (n - i - 1)) := by
          rw [← Nat.pow_succ', ← Nat.pow_add]
          congr 1; omega
        rw [hs, Nat.mul_assoc, Nat.add_mul_div_left _ _ (Nat.pow_pos h), Nat.mul_assoc, Nat.add_mul_mod_self_left]
        exact hd i hin

theorem raw_vq {W : World} {wd hi dp q c N : Nat} {bs : List Nat} {P : Int → Int → List Int} (k : Nat) (one more : Int) (h : VQ W wd hi dp q c N bs P) (hv : vVol wd hi dp (wd * hi * dp) = true) (hN : N = wd * hi * dp) (hk : k < 8) (hqb : ∀ x y, insI x y wd hi → ∀ d, d < dp → 0 ≤ (P x y).getD d 0 ∧ (P x y).getD d 0 ≤ 100) (h1 : 0 ≤ one) (h2 : one ≤ more) (h3 : more ≤ 1000000) :
    Calls Try.prog 19 #[.agg #[.int .i64 wd, .int .i64 hi, .int .i64 dp, .slice (some ⟨q, 0, none⟩) N c], .agg #[.float .f32 (fq 2 one), .float .f32 (fq 2 more)], .int .i64 k] W fun e w' =>
      ∃ (q2 c2 : Nat) (bs2 : List Nat) (P2 : Int → Int → List Int), e = .returned (.tuple #[.agg #[.int .i64 wd, .int .i64 hi, .int .i64 dp, .slice (some ⟨q2, 0, none⟩) N c2], .bool true]) ∧ VQ w' wd hi dp q2 c2 N bs2 P2 ∧ IsAlong (rawG one more) P (wayX k) (wayY k) wd hi P2 ∧ (∀ x y, insI x y wd hi → (P2 x y).length = dp) ∧ Below W.heap.size W w' := by
  have K := rawPath_ok W wd hi dp q 0 c k bs P one more (h.ok hv) h.qlt h.qv hk hqb h1 h2 h3
  rw [h.len] at K
  refine K.mono ?_
  rintro e w' ⟨q2, c2, bs2, P2, rfl, hown, hq, hal, hok, hb⟩
  have hl : bs2.length = N := by rw [hq.1, hN]
  exact ⟨q2, c2, bs2, P2, by rw [hl], .of hown hl hq, hal, fun x y hxy => (hok x y hxy).1, hb⟩

/-- The least cost of the first rows that end at a disparity. -/
def leastK (cost : Nat → Int) (last : Nat → Nat) : Nat → Nat → Int
  | 0, _ => 4000000
  | k + 1, d => if last k = d then min (leastK cost last k d) (cost k) else leastK cost last k d
theorem leastK_ge {cost : Nat → Int} {last : Nat → Nat} {d : Nat} {B : Int} (hB : B ≤ 4000000) : ∀ m, (∀ k, k < m → last k = d → B ≤ cost k) → B ≤ leastK cost last m d := by
  intro m
  induction m with
  | zero => intro _; exact hB
  | succ m ih =>
    intro h
    have a := ih (fun k hk => h k (by omega))
    show B ≤ if last m = d then _ else _
    split
    · rename_i e; have := h m (by omega) e; omega
    · exact a
theorem leastK_le {cost : Nat → Int} {last : Nat → Nat} {d : Nat} : ∀ m k, k < m → last k = d → leastK cost last m d ≤ cost k := by
  intro m
  induction m with
  | zero => intro k hk; omega
  | succ m ih =>
    intro k hk e
    show (if last m = d then _ else _) ≤ _
    by_cases g : k = m
    · subst g; rw [if_pos e]; exact Int.min_le_right _ _
    · have := ih k (by omega) e
      split
      · exact Int.le_trans (Int.min_le_left _ _) this
      · exact this
theorem leastK_bd {cost : Nat → Int} {last : Nat → Nat} {d : Nat} (h : ∀ k, 0 ≤ cost k) (m : Nat) : 0 ≤ leastK cost last m d ∧ leastK cost last m d ≤ 4000000 := by
  refine ⟨leastK_ge (by decide) m (fun k _ _ => h k), ?_⟩
  induction m with
  | zero => exact Int.le_refl _
  | succ m ih =>
    show (if last m = d then _ else _) ≤ _
    split <;> omega
theorem least_all {C : Nat → Nat → Int} {pr : Nat → Nat → Int} {dp wd d : Nat} (hp : 1 ≤ dp) (hw : 1 ≤ wd) (hd : d < dp) (hb : dpG C pr dp (wd - 1) d ≤ 4000000) :
    leastK (fun k => rowC C pr (dig dp k) (wd - 1)) (fun k => dig dp k (wd - 1)) (dp ^ wd) d = dpG C pr dp (wd - 1) d := by
  apply Int.le_antisymm
  · obtain ⟨k, hk, hv⟩ := dig_code dp hp (backR C pr dp (wd - 1) d) wd (fun i _ => backR_lt C pr dp hp _ _ hd i)
    have h := leastK_le (cost := fun k => rowC C pr (dig dp k) (wd - 1)) (last := fun k => dig dp k (wd - 1)) (d := d) (dp ^ wd) k hk (by show dig dp k (wd - 1) = d; rw [hv _ (by omega)]; exact backR_end C pr dp _ _)
    have e : rowC C pr (dig dp k) (wd - 1) = dpG C pr dp (wd - 1) d := by
      rw [rowC_congr C pr (wd - 1) (u := backR C pr dp (wd - 1) d) (fun i hi => hv i (by omega))]
      exact backR_cost C pr dp hp _ _
    have h : leastK (fun k => rowC C pr (dig dp k) (wd - 1)) (fun k => dig dp k (wd - 1)) (dp ^ wd) d ≤ rowC C pr (dig dp k) (wd - 1) := h
    omega
  · refine leastK_ge hb _ (fun k hk e => ?_)
    have e : dig dp k (wd - 1) = d := e
    have := dpG_least C pr dp hp (dig dp k) (wd - 1) (fun i _ => dig_lt hp)
    rw [e] at this
    exact this

/-- The least one of the first numbers. -/
def bestN (f : Nat → Int) : Nat → Int
  | 0 => f 0
  | m + 1 => min (bestN f m) (f (m + 1))
theorem bestN_le (f : Nat → Int) : ∀ m e, e ≤ m → bestN f m ≤ f e := by
  intro m
  induction m with
  | zero => intro e he; rw [show e = 0 by omega]; exact Int.le_refl _
  | succ m ih =>
    intro e he
    show min _ _ ≤ _
    by_cases g : e = m + 1
    · subst g; exact Int.min_le_right _ _
    · exact Int.le_trans (Int.min_le_left _ _) (ih e (by omega))
theorem bestN_is (f : Nat → Int) : ∀ m, ∃ e, e ≤ m ∧ bestN f m = f e := by
  intro m
  induction m with
  | zero => exact ⟨0, Nat.le_refl _, rfl⟩
  | succ m ih =>
    rcases Int.le_total (bestN f m) (f (m + 1)) with h | h
    · obtain ⟨e, he, hz⟩ := ih
      exact ⟨e, by omega, by show min _ _ = _; rw [Int.min_eq_left h]; exact hz⟩
    · exact ⟨m + 1, Nat.le_refl _, by show min _ _ = _; exact Int.min_eq_right h⟩
theorem best_both {P : Int → Int → List Int} {one more : Int} {dp wd y x : Nat} (hp : 1 ≤ dp) (hx : x < wd) :
    bestN (fun d => dpG (CY P y) (prI one more) dp x d + dpG (fun k d => CY P y (wd - 1 - k) d) (prI one more) dp (wd - 1 - x) d - CY P y x d) (dp - 1) = solC P one more dp wd y := by
  have hs : (fun a b => prI one more b a) = prI one more := funext fun a => funext fun b => prI_symm one more b a
  apply Int.le_antisymm
  · have h := both_le (CY P y) (prI one more) dp hp (wd - 1) x (by omega) (solR P one more dp wd y) (fun k _ => sol_lt hp k)
    rw [sol_cost hp, hs] at h
    refine Int.le_trans (bestN_le _ (dp - 1) (solR P one more dp wd y x) (by have := sol_lt (P := P) (one := one) (more := more) (wd := wd) (y := y) hp x; omega)) h
  · obtain ⟨d, hd, e⟩ := bestN_is (fun d => dpG (CY P y) (prI one more) dp x d + dpG (fun k d => CY P y (wd - 1 - k) d) (prI one more) dp (wd - 1 - x) d - CY P y x d) (dp - 1)
    rw [e]
    obtain ⟨v, hv, hvx, hc⟩ := both_at (CY P y) (prI one more) dp hp (wd - 1) x d (by omega) (by omega)
    rw [hs] at hc
    have := sol_least (P := P) (one := one) (more := more) (wd := wd) (y := y) hp v (fun k _ => hv k)
    rw [hc] at this
    exact this
theorem bestN_bd {f : Nat → Int} {B : Int} {m : Nat} (h : ∀ e, e ≤ m → 0 ≤ f e ∧ f e ≤ B) : 0 ≤ bestN f m ∧ bestN f m ≤ B := by
  obtain ⟨e, he, hz⟩ := bestN_is f m
  rw [hz]; exact h e he

end Go.Proofs.Ytfhlpabbacopjaa
