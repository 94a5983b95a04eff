/- The exact laws' own functions on numbers and slices of numbers: sameFloat, eqFloat32S, markFloat32S, heldFloat32S. -/
import Derived.Test.YtcppoadeelnphaaDoorLaw
import Derived.Test.YtcppoadeelnphaaDoorFc
import Derived.Test.YtcppoadeelnphaaDoorMem
namespace Go.Proofs.YtcppoadeelnphaaDoor
open Go.RowKit Ieee
set_option maxRecDepth 100000
set_option linter.unusedVariables false
set_option linter.unusedSimpArgs false

theorem wide_num {b : Nat} (hb : b < 4294967296) (h : nan32 b = false) : ∃ r, floatToFloatBits .f32 b .f64 = some r ∧ nan64 r = false ∧ r < 18446744073709551616 := by
  by_cases hf : fin32 b = true
  · obtain ⟨c, ec, lc, fc, gc, uc⟩ := wide_fin hf
    have := (fin64_iff c).1 fc
    refine ⟨c, ec, ?_, lc⟩
    unfold nan64; unfold fin64 at this; simp at *; omega
  · have hi : rg single b = single.infRung := by
      unfold rg; rw [sg_sw, sg_inf]; unfold fin32 at hf; unfold nan32 at h; simp at *; omega
    have e : b = single.word (sgn single b) single.infRung := by rw [← hi]; exact (word32 hb).symm
    have h1 := cv_inf32 (sgn single b)
    rw [← e] at h1
    exact ⟨_, h1, by cases sgn single b <;> decide, by cases sgn single b <;> decide⟩

/-- Two words of 64 bits that are one number. -/
def one64 (x y : Nat) : Prop := (x = y ∧ nan64 x = false ∧ x < 18446744073709551616) ∨ (nan64 x = true ∧ nan64 y = true)

theorem one64_of {a b : Nat} (ha : a < 4294967296) (hb : b < 4294967296) (h : fl a = fl b) (w1 w2 : World) : one64 (cvr .f32 .f64 a w1) (cvr .f32 .f64 b w2) := by
  cases na : nan32 a
  · cases nb : nan32 b
    · rw [fl_eq na, fl_eq nb] at h
      subst h
      obtain ⟨r, hr, h1, h2⟩ := wide_num ha na
      rw [cvr_some hr, cvr_some hr]
      exact .inl ⟨rfl, h1, h2⟩
    · rw [fl_eq na, fl_nan nb] at h
      subst h; exact absurd na (by decide)
  · cases nb : nan32 b
    · rw [fl_nan na, fl_eq nb] at h
      subst h; exact absurd nb (by decide)
    · exact .inr ⟨cv_nan32 na w1, cv_nan32 nb w2⟩

theorem zero64 {x : Nat} (hx : x < 18446744073709551616) (h : eq64 x 0 = true) : x = 0 ∨ x = 9223372036854775808 := by
  unfold eq64 sr64 at h
  simp at h
  obtain ⟨_, h⟩ := h
  split at h <;> omega

theorem sameFloat_yes (x y : Nat) (h : one64 x y) (w : World) : Calls Tryd.prog 36 #[.float .f64 x, .float .f64 y] w fun e w' => e = .returned (.bool true) ∧ w = w' := by
  have p0 : floatBits .quo .f64 4607182418800017408 0 = some 9218868437227405312 := by decide +kernel
  have p1 : floatBits .quo .f64 4607182418800017408 9223372036854775808 = some 18442240474082181120 := by decide +kernel
  have f0 := fres_some p0
  have f1 := fres_some p1
  have d0 := fdr_some p0
  have d1 := fdr_some p1
  rcases h with ⟨rfl, hn, hl⟩ | ⟨h1, h2⟩
  · cases hz : eq64 x 0
    · go_enter Tryd.func36, Tryd.ntmps36
      go_wp2
      go_ret
      exact ⟨rfl, rfl⟩
    · rcases zero64 hl hz with rfl | rfl
      · go_enter Tryd.func36, Tryd.ntmps36
        go_wp2
        go_ret
        exact ⟨rfl, rfl⟩
      · go_enter Tryd.func36, Tryd.ntmps36
        go_wp2
        go_ret
        exact ⟨rfl, rfl⟩
  · go_enter Tryd.func36, Tryd.ntmps36
    go_wp2
    go_ret
    exact ⟨rfl, rfl⟩

theorem cellAt2 {w : World} {b off cap : Nat} {n : Nat} {bs : List Nat} (h : SlF w (.slice (some ⟨b, off, none⟩) n cap) bs) (i : Nat) (hi : i < bs.length) : w.cell? ⟨b, off + i, none⟩ = some (.float .f32 (bs.getD i 0)) ∧ bs.getD i 0 < 4294967296 := by
  obtain ⟨b', off', cap', h1, h2, h3⟩ := h.form (by intro e; rw [e] at hi; simp at hi)
  simp only [Value.slice.injEq, Option.some.injEq, Addr.mk.injEq] at h1
  obtain ⟨⟨rfl, rfl, _⟩, _, _⟩ := h1
  have hg : bs.getD i 0 = bs[i] := by rw [List.getD_eq_getElem?_getD, List.getElem?_eq_getElem hi]; rfl
  exact ⟨by rw [h3 i hi, hg], by rw [hg]; exact h.lt hi⟩

theorem eqF_yes (w : World) (v1 v2 : Value) (xs ys : List Nat) (h1 : SlF w v1 xs) (h2 : SlF w v2 ys) (he : xs.map fl = ys.map fl) :
    Calls Tryd.prog 24 #[v1, v2] w fun e w' => e = .returned (.bool true) ∧ ∃ q, w' = w.drewN q := by
  have hl : xs.length = ys.length := by have := congrArg List.length he; simpa using this
  obtain ⟨a1, c1, rfl⟩ := h1.len
  obtain ⟨a2, c2, rfl⟩ := h2.len
  have hcap : xs.length ≤ 9223372036854775807 := by
    obtain ⟨_, cap, q1, q2, q3, _⟩ := h1.1
    simp at q1 q2; omega
  have hz : ∀ i : Nat, i < xs.length → ∃ b1 o1 b2 o2, a1 = some ⟨b1, o1, none⟩ ∧ a2 = some ⟨b2, o2, none⟩ ∧ (∀ q, (w.drewN q).cell? ⟨b1, o1 + i, none⟩ = some (.float .f32 (xs.getD i 0))) ∧ (∀ q, (w.drewN q).cell? ⟨b2, o2 + i, none⟩ = some (.float .f32 (ys.getD i 0))) ∧ ∀ w1 w2, one64 (cvr .f32 .f64 (xs.getD i 0) w1) (cvr .f32 .f64 (ys.getD i 0) w2) := by
    intro i hi
    obtain ⟨b1, o1, _, q1, _, _⟩ := h1.form (by intro e; rw [e] at hi; simp at hi)
    obtain ⟨b2, o2, _, q2, _, _⟩ := h2.form (by intro e; rw [e] at hl; simp at hl; rw [hl] at hi; simp at hi)
    simp only [Value.slice.injEq] at q1 q2
    obtain ⟨rfl, _⟩ := q1
    obtain ⟨rfl, _⟩ := q2
    have k1 := cellAt2 h1 i hi
    have k2 := cellAt2 h2 i (by omega)
    refine ⟨b1, o1, b2, o2, rfl, rfl, fun _ => k1.1, fun _ => k2.1, fun w1 w2 => one64_of k1.2 k2.2 ?_ w1 w2⟩
    have := congrArg (fun l => l.getD i 0) he
    simp only [List.getD_eq_getElem?_getD, List.getElem?_map] at this ⊢
    rw [List.getElem?_eq_getElem hi, List.getElem?_eq_getElem (show i < ys.length by omega)] at this ⊢
    simpa using this
  clear h1 h2 he
  generalize hn : xs.length = n at *
  rw [← hl]
  clear hl hn
  go_enter Tryd.func24, Tryd.ntmps24
  go_wp2_with fail
  go_loopw [5] (fun v5 wr => ∃ i : Nat, v5 = .int .i64 i ∧ i ≤ n ∧ ∃ q, wr = w.drewN q) (fun v5 _ => n - (intOf v5).toNat)
  case atStart => exact ⟨0, rfl, Nat.zero_le _, 0, rfl⟩
  case round =>
    obtain ⟨i, rfl, hi, q, rfl⟩ := hrel
    by_cases hlt : i < n
    · obtain ⟨b1, o1, b2, o2, rfl, rfl, k1, k3, k5⟩ := hz i hlt
      clear hz
      go_wp2_with fail
      go_region_law (first
        | (go_simp; refine (sameFloat_yes _ _ (k5 _ _) _).mono ?_; rintro e w' ⟨rfl, rfl⟩))
      all_goals
        go_wp2
        go_roundw
        case rel => exact ⟨i + 1, by go_num, by omega, _, rfl⟩
        case measure => simp [intOf]; omega
    · go_wp2
      go_ret
      exact ⟨rfl, _, rfl⟩

theorem nan_word {neg : Bool} {r : Nat} (h : r ≤ single.infRung) : nan32 (single.word neg r) = false := by
  have := rg_word single neg (Nat.lt_of_le_of_lt h single.infRung_lt)
  unfold rg at this
  rw [sg_sw] at this
  rw [sg_inf] at h
  unfold nan32
  rw [this, decide_eq_false_iff_not]; omega

theorem nan_ofInt (n : Int) : nan32 (floatOfInt .f32 n) = false := by
  unfold floatOfInt FloatKind.nearest
  show nan32 (single.nearest _ _ _) = false
  unfold Format.nearest
  split
  · exact nan_word (Nat.zero_le _)
  · exact nan_word (Nat.min_le_right _ _)

/-- The marks from a number on. -/
def marks (k n : Nat) : List Nat := (List.range n).map (fun i => floatOfInt .f32 ((k + i : Nat) : Int))

theorem marks_length (k n : Nat) : (marks k n).length = n := by simp [marks]

theorem marks_get (k n i : Nat) (h : i < n) : (marks k n).getD i 0 = floatOfInt .f32 ((k + i : Nat) : Int) := by
  unfold marks
  rw [List.getD_eq_getElem?_getD, List.getElem?_map, List.getElem?_range h]; rfl

theorem heldF_yes (w : World) (v : Value) (k n : Nat) (hk : k + n ≤ 9223372036854775000) (h : SlF w v (marks k n)) :
    Calls Tryd.prog 26 #[v, .int .i64 k] w fun e w' => e = .returned (.int .i64 ((k + n : Nat) : Int)) ∧ w = w' := by
  obtain ⟨a1, c1, rfl⟩ := h.len
  have hz : ∀ i : Nat, i < n → ∃ b1 o1, a1 = some ⟨b1, o1, none⟩ ∧ w.cell? ⟨b1, o1 + i, none⟩ = some (.float .f32 (floatOfInt .f32 ((k : Int) + i))) ∧ nan32 (floatOfInt .f32 ((k : Int) + i)) = false := by
    intro i hi
    obtain ⟨b1, o1, _, q1, _, _⟩ := h.form (by intro e; have := congrArg List.length e; rw [marks_length] at this; simp at this; omega)
    simp only [Value.slice.injEq] at q1
    obtain ⟨rfl, _⟩ := q1
    have k1 := cellAt2 h i (by rw [marks_length]; exact hi)
    rw [marks_get _ _ _ hi] at k1
    refine ⟨b1, o1, rfl, ?_, nan_ofInt _⟩
    have e : ((k + i : Nat) : Int) = (k : Int) + i := by omega
    rw [← e]; exact k1.1
  clear h
  rw [marks_length]
  go_enter Tryd.func26, Tryd.ntmps26
  go_wp2_with fail
  go_loop [5, 1] (fun v5 v1 => ∃ i : Nat, v5 = .int .i64 i ∧ v1 = .int .i64 ((k : Int) + i) ∧ i ≤ n) (fun v5 v1 => n - (intOf v5).toNat)
  case atStart => exact ⟨0, rfl, by simp, Nat.zero_le _⟩
  case round =>
    obtain ⟨i, rfl, rfl, hi⟩ := hrel
    by_cases hlt : i < n
    · obtain ⟨b1, o1, rfl, k1, k2⟩ := hz i hlt
      clear hz
      go_wp2
      go_round
      case rel => exact ⟨i + 1, by go_num, by go_num, by omega⟩
      case measure => simp [intOf]; omega
    · have : i = n := by omega
      subst this
      go_wp2
      go_ret
      simp

theorem getD_of2 (bs : List Nat) (i : Nat) (h : i < bs.length) : bs[i] = bs.getD i 0 := by rw [List.getD_eq_getElem?_getD, List.getElem?_eq_getElem h]; rfl

theorem ofInt_lt (n : Int) : floatOfInt .f32 n < 4294967296 := by have := floatOfInt_wf .f32 n; simpa [Lit.wf] using this

theorem grown_trans2 {w1 w2 w3 : World} {r : Option Nat} (h : w1.grownBy w2 r) (h' : w2.grownBy w3 r) : w1.grownBy w3 r :=
  ⟨h'.os.trans h.os, h'.tape.trans h.tape, h'.output.trans h.output, Nat.le_trans h.size h'.size, fun k hk hn => (h'.block k (Nat.lt_of_lt_of_le hk h.size) hn).trans (h.block k hk hn)⟩

theorem grown_self (w : World) (r : Option Nat) : w.grownBy w r := ⟨rfl, rfl, rfl, Nat.le_refl _, fun _ _ _ => rfl⟩

theorem markF_any (w : World) (B : Nat) (v : Value) (bs : List Nat) (k : Nat) (hk : k + bs.length ≤ 9223372036854775000) (h : OwnF w B v bs) :
    Calls Tryd.prog 25 #[v, .int .i64 k] w fun e w' => e = .returned (.int .i64 ((k + bs.length : Nat) : Int)) ∧ OwnF w' B v (marks k bs.length) ∧ w.grownBy w' v.ownBlock := by
  rcases h.form with ⟨rfl, rfl⟩ | ⟨g, cap, hv, hm⟩
  · go_enter Tryd.func25, Tryd.ntmps25
    go_wp2_with fail
    go_loop [5, 1] (fun v5 v1 => v5 = .int .i64 0 ∧ v1 = .int .i64 k) (fun v5 v1 => 0)
    case atStart => exact ⟨rfl, rfl⟩
    case round =>
      obtain ⟨rfl, rfl⟩ := hrel
      go_wp2
      go_ret
      exact ⟨by simp, h, grown_self _ _⟩
  · generalize hn : bs.length = n at *
    subst hv
    have hm1 : n ≤ 9223372036854775807 := by unfold maxLen at hm; omega
    clear hm
    go_enter Tryd.func25, Tryd.ntmps25
    go_wp2_with fail
    go_loopw [5, 1] (fun v5 v1 wr => ∃ (i : Nat) (cs : List Nat), v5 = .int .i64 i ∧ v1 = .int .i64 ((k : Int) + i) ∧ i ≤ n ∧ cs.length = n ∧ (∀ j, j < i → cs.getD j 0 = floatOfInt .f32 ((k + j : Nat) : Int)) ∧ OwnF wr B (.slice (some ⟨g, 0, none⟩) n cap) cs ∧ w.grownBy wr (some g)) (fun v5 v1 _ => n - (intOf v5).toNat)
    case atStart => exact ⟨0, bs, rfl, by simp, Nat.zero_le _, hn, by omega, h, grown_self _ _⟩
    case round =>
      clear h
      obtain ⟨i, cs, rfl, rfl, hi, hl, hq, hown, hg⟩ := hrel
      by_cases hlt : i < n
      · have hc : wr.cell? ⟨g, i, none⟩ = some (.float .f32 (cs.getD i 0)) := by have := (cellAt2 hown.sl i (by omega)).1; simpa using this
        have hf : wr.frozen? ⟨g, i, none⟩ = false := World.ownsRow.frozenAt (n := n) (by have := hown.1; rw [hl] at this; exact this) i
        have HQ := Lib.hid hq
        have HL := Lib.hid hl
        clear hq hl
        go_wp2
        go_roundw
        case rel =>
          refine ⟨i + 1, cs.set i (floatOfInt .f32 ((k : Int) + i)), by go_num, by go_num, by omega, by simp [HL.out], fun j hj => ?_, hown.put i (ofInt_lt _), grown_trans2 hg (grown_setCell _ _ _)⟩
          have hl := HL.out
          by_cases hji : j = i
          · subst hji
            rw [List.getD_eq_getElem?_getD, List.getElem?_set_self (by omega)]
            have e : ((k + j : Nat) : Int) = (k : Int) + j := by omega
            rw [e]; rfl
          · rw [List.getD_eq_getElem?_getD, List.getElem?_set_ne (by omega), ← List.getD_eq_getElem?_getD]
            exact HQ.out j (by omega)
        case measure => simp [intOf]; omega
      · have hin : i = n := by omega
        subst hin
        have e : cs = marks k i := by
          apply List.ext_getElem
          · rw [marks_length, hl]
          · intro j h1 h2
            rw [getD_of2 _ _ h1, getD_of2 _ _ h2, hq j (by omega), marks_get _ _ _ (by omega)]
        subst e
        clear hq hl
        go_wp2
        go_ret
        exact ⟨by simp, hown, hg⟩

end Go.Proofs.YtcppoadeelnphaaDoor
