/- Whole maps in memory: whole values, prices, IsWhole, the first of the least. -/
import Derived.Test.YtfhlpabbacopjaaIa
import Derived.Test.YtfhlpabbacopjaaMr
import Derived.StillTactics
namespace Go.Proofs.Ytfhlpabbacopjaa
open Go.RowKit
set_option maxRecDepth 100000
set_option linter.unusedVariables false
set_option linter.unusedSimpArgs false

def wW (m : Nat) : Nat := fq 0 (m : Int)
theorem wW_def (m : Nat) : fq 0 (m : Int) = wW m := rfl
theorem wW_q (m : Nat) : wW m = fq 2 (4 * (m : Int)) := by
  have := fq_shift (g := 0) (j := 2) (by decide) (m : Int)
  unfold wW
  rw [← this]
  congr 1
  rw [Int.mul_comm]; rfl
/-- A slice of whole numbers. -/
structure WM (W : World) (q c N : Nat) (ms : List Nat) (dp : Nat) : Prop where
  sl : SlF W (.slice (some ⟨q, 0, none⟩) N c) (ms.map wW)
  lt : q < W.heap.size
  len : ms.length = N
  bd : ∀ m ∈ ms, m < dp
theorem WM.below {W W' : World} {q c N dp : Nat} {ms : List Nat} (h : WM W q c N ms dp) (hb : Below W.heap.size W W') : WM W' q c N ms dp := ⟨h.sl.below hb, Nat.lt_of_lt_of_le h.lt hb.size, h.len, h.bd⟩
theorem WM.drewN {W : World} {q c N dp : Nat} {ms : List Nat} (h : WM W q c N ms dp) (k : Nat) : WM (W.drewN k) q c N ms dp := ⟨⟨h.sl.1.drewN k, h.sl.2⟩, h.lt, h.len, h.bd⟩
theorem wW_get {ms : List Nat} {i : Nat} (h : i < ms.length) : (ms.map wW).getD i 0 = wW (ms.getD i 0) := by
  rw [List.getD_eq_getElem?_getD, List.getD_eq_getElem?_getD, List.getElem?_map, List.getElem?_eq_getElem h, Option.map_some, Option.getD_some, Option.getD_some]
theorem WM.mb {W : World} {q c N dp : Nat} {ms : List Nat} (h : WM W q c N ms dp) {i : Nat} (hi : i < N) : ms.getD i 0 < dp := by
  rw [List.getD_eq_getElem?_getD, List.getElem?_eq_getElem (by rw [h.len]; exact hi)]
  exact h.bd _ (List.getElem_mem _)
theorem cell_lt {wd hi x y : Nat} (hx : x < wd) (hy : y < hi) : x + wd * y < wd * hi := by
  calc x + wd * y < wd + wd * y := by omega
    _ = wd * (y + 1) := by rw [Nat.mul_add, Nat.mul_one, Nat.add_comm]
    _ ≤ wd * hi := Nat.mul_le_mul_left _ hy
theorem WM.mat {W : World} {q c N dp wd hi : Nat} {ms : List Nat} (h : WM W q c N ms dp) (hN : N = wd * hi) {x y : Nat} (hx : x < wd) (hy : y < hi) : mAt ms wd x y < dp := h.mb (by rw [hN]; exact cell_lt hx hy)
/-- The map in a box. -/
structure MB (W : World) (pb wd hi q c N : Nat) (ms : List Nat) (dp : Nat) : Prop where
  box : Box3 W pb (.int .i64 wd) (.int .i64 hi) (.slice (some ⟨q, 0, none⟩) N c) 48
  wm : WM W q c N ms dp
theorem MB.below {W W' : World} {pb wd hi q c N dp : Nat} {ms : List Nat} (h : MB W pb wd hi q c N ms dp) (hb : Below W.heap.size W W') : MB W' pb wd hi q c N ms dp := ⟨h.box.below hb, h.wm.below hb⟩
theorem MB.drewN {W : World} {pb wd hi q c N dp : Nat} {ms : List Nat} (h : MB W pb wd hi q c N ms dp) (k : Nat) : MB (W.drewN k) pb wd hi q c N ms dp := ⟨h.box, h.wm.drewN k⟩
theorem MB.at {W : World} {pb wd hi q c N dp : Nat} {ms : List Nat} (h : MB W pb wd hi q c N ms dp) (hN : N = wd * hi) : PicAt W pb wd hi (.slice (some ⟨q, 0, none⟩) N c) (ms.map wW) 48 := ⟨h.box, h.wm.sl, by rw [List.length_map, h.wm.len, hN]⟩

@[go_sem] theorem conv32_i64w (b : Nat) (n : Int) (w : World) (h : floatToIntVal .f32 b .i64 = some n) : (convert 28 2 (.float .f32 b)).run Try.prog w = .ok (.int .i64 n) w := run_convert_float_int w _ _ _ _ _ _ (by rfl) (by rfl) h

theorem whole_any (W : World) (pb wd hi q c N dp : Nat) (ms : List Nat) (X Y : Int) (x y : Nat) (hX : X = x) (hY : Y = y) (hx : x < wd) (hy : y < hi) (hw : wd ≤ 24) (hh : hi ≤ 24) (hN : N = wd * hi) (hd : dp ≤ 8) (h : MB W pb wd hi q c N ms dp) :
    Calls Try.prog 65 #[.pointer (some ⟨pb, 0, none⟩), .int .i64 X, .int .i64 Y] W fun e w' => e = .returned (.int .i64 (mAt ms wd x y : Nat)) ∧ ∃ n, w' = W.drewN n := by
  subst hX hY
  have K := mat_any W pb wd hi _ _ x y x y rfl rfl hx hy (by omega) (by omega) (h.at hN)
  have hm := h.wm.mat hN hx hy
  rw [wW_get (by rw [h.wm.len, hN]; exact cell_lt hx hy)] at K
  have hc := fq_int (k := (mAt ms wd x y : Nat)) (by omega)
  rw [wW_def] at hc
  have e2 : ms.getD (x + wd * y) 0 = mAt ms wd x y := rfl
  rw [e2] at K
  generalize mAt ms wd x y = m at *
  generalize wW m = z at *
  have K := Lib.hid K
  clear h
  go_enter Try.func65, Try.ntmps65
  go_wp2_with fail
  refine K.out.mono ?_
  rintro e w' ⟨rfl, n, rfl⟩
  go_wp2
  go_ret
  exact ⟨rfl, n, rfl⟩

theorem price_any (w : World) (one more : Int) (a b : Nat) (ha : a < 100) (hb : b < 100) :
    Calls Try.prog 60 #[.agg #[.float .f32 (fq 2 one), .float .f32 (fq 2 more)], .int .i64 a, .int .i64 b] w fun e w' => e = .returned (.float .f32 (fq 2 (prI one more a b))) ∧ Below w.heap.size w w' := by
  have h0 : fq 2 0 = 0 := fq_zero 2
  by_cases h1 : a = b
  · have e : prI one more a b = 0 := by unfold prI; rw [if_pos h1]
    rw [e, h0]
    clear e
    subst h1
    generalize fq 2 one = vo at *
    generalize fq 2 more = vm at *
    go_enter Try.func60, Try.ntmps60
    go_wp2
    go_ret
    exact ⟨rfl, (Below.refl _ _).alloc (Nat.le_refl _) _⟩
  · obtain ⟨D, hD⟩ : ∃ D : Int, D = (a : Int) - b := ⟨_, rfl⟩
    have k0 : (D == 0) = false := by rw [beq_eq_false_iff_ne]; omega
    have hw : IntKind.i64.wrap ((a : Int) - b) = D := by rw [← hD]; exact IntWalk.i64_in _ (by omega)
    by_cases h2 : a = b + 1
    · have e : prI one more a b = one := by unfold prI; rw [if_neg h1, if_pos (.inl h2)]
      have k1 : (D == 1) = true := by rw [beq_iff_eq]; omega
      rw [e]
      generalize fq 2 one = vo at *
      generalize fq 2 more = vm at *
      clear e h0 h1 h2 hD
      go_enter Try.func60, Try.ntmps60
      go_wp2
      go_ret
      exact ⟨rfl, (Below.refl _ _).alloc (Nat.le_refl _) _⟩
    · have k1 : (D == 1) = false := by rw [beq_eq_false_iff_ne]; omega
      by_cases h3 : b = a + 1
      · have e : prI one more a b = one := by unfold prI; rw [if_neg h1, if_pos (.inr h3)]
        have k2 : (D == -1) = true := by rw [beq_iff_eq]; omega
        rw [e]
        generalize fq 2 one = vo at *
        generalize fq 2 more = vm at *
        clear e h0 h1 h2 h3 hD
        go_enter Try.func60, Try.ntmps60
        go_wp2
        go_ret
        exact ⟨rfl, (Below.refl _ _).alloc (Nat.le_refl _) _⟩
      · have e : prI one more a b = more := by unfold prI; rw [if_neg h1, if_neg (fun g => g.elim h2 h3)]
        have k2 : (D == -1) = false := by rw [beq_eq_false_iff_ne]; omega
        rw [e]
        generalize fq 2 one = vo at *
        generalize fq 2 more = vm at *
        clear e h0 h1 h2 h3 hD
        go_enter Try.func60, Try.ntmps60
        go_wp2
        go_ret
        exact ⟨rfl, (Below.refl _ _).alloc (Nat.le_refl _) _⟩

/-- The place of the first of the least numbers of a list. -/
def FstL (ks : List Int) (i d : Nat) : Prop := d < i ∧ (∀ e, e < i → ks.getD d 0 ≤ ks.getD e 0) ∧ ∀ e, e < d → ks.getD d 0 < ks.getD e 0
theorem FstL.step {ks : List Int} {i d : Nat} (h : FstL ks i d) : (ks.getD i 0 < ks.getD d 0 → FstL ks (i + 1) i) ∧ (¬ ks.getD i 0 < ks.getD d 0 → FstL ks (i + 1) d) := by
  obtain ⟨h1, h2, h3⟩ := h
  refine ⟨fun g => ⟨by omega, fun e he => ?_, fun e he => ?_⟩, fun g => ⟨by omega, fun e he => ?_, h3⟩⟩
  · by_cases hh : e = i
    · rw [hh]; exact Int.le_refl _
    · have := h2 e (by omega); omega
  · have := h2 e (by omega); omega
  · by_cases hh : e = i
    · rw [hh]; omega
    · exact h2 e (by omega)

theorem firstLeast_q (w : World) (b off n c : Nat) (ks : List Int) (hn : 1 ≤ n) (hl : ks.length = n) (h : SlF w (.slice (some ⟨b, off, none⟩) n c) (ks.map (fq 2))) (hb : ∀ i, i < n → (ks.getD i 0).natAbs ≤ 1000000) :
    Calls Try.prog 64 #[.slice (some ⟨b, off, none⟩) n c] w fun e w' => ∃ d, e = .returned (.int .i64 (d : Nat)) ∧ FstL ks n d ∧ ∃ m, w' = w.drewN m := by
  obtain ⟨s1, s2, s3⟩ := h.size
  have hz : ∀ i, i < n → w.cell? ⟨b, off + i, none⟩ = some (.float .f32 (fq 2 (ks.getD i 0))) := fun i hi => by
    have := (h.at i (by omega)).1
    rw [this, List.getD_eq_getElem?_getD, List.getD_eq_getElem?_getD, List.getElem?_map, List.getElem?_eq_getElem (by omega)]; rfl
  have HZ := Lib.hid hz
  have HB := Lib.hid hb
  clear h hz hb s1 hl
  go_enter Try.func64, Try.ntmps64
  go_wp2_with fail
  go_loopw [3, 8] (fun v3 v8 wr => ∃ d i m : Nat, v3 = .int .i64 d ∧ v8 = .int .i64 i ∧ i ≤ n ∧ ((i = 0 ∧ d = 0) ∨ FstL ks i d) ∧ wr = w.drewN m) (fun _ v8 _ => n - (intOf v8).toNat)
  case atStart => exact ⟨0, 0, 0, rfl, rfl, Nat.zero_le _, .inl ⟨rfl, rfl⟩, rfl⟩
  case round =>
    obtain ⟨d, i, m, rfl, rfl, hi, hd, rfl⟩ := hrel
    have HD := Lib.hid hd
    clear hd
    by_cases hlt : i < n
    · have hdi : d < n := by rcases HD.out with ⟨_, h⟩ | ⟨h, _, _⟩ <;> omega
      have z1 := HZ.out i hlt
      have z2 := HZ.out d hdi
      have b1 := HB.out i hlt
      have b2 := HB.out d hdi
      have l1 := lt32_fq (g := 2) (a := ks.getD i 0) (b := ks.getD d 0) (by omega) (by omega)
      by_cases hl : ks.getD i 0 < ks.getD d 0
      · rw [decide_eq_true hl] at l1
        have hnew : FstL ks (i + 1) i := by
          rcases HD.out with ⟨h1, h2⟩ | h
          · subst h1 h2; omega
          · exact h.step.1 hl
        have HN := Lib.hid hnew
        generalize fq 2 (ks.getD i 0) = u1 at *
        generalize fq 2 (ks.getD d 0) = u2 at *
        clear b1 b2 hl hnew
        go_wp2
        go_roundw
        case rel => exact ⟨i, i + 1, _, rfl, by go_num, by omega, .inr HN.out, rfl⟩
        case measure => simp [intOf]; omega
      · rw [decide_eq_false hl] at l1
        have hnew : FstL ks (i + 1) d := by
          rcases HD.out with ⟨h1, h2⟩ | h
          · subst h1 h2
            exact ⟨by omega, fun e he => by rw [show e = 0 by omega]; exact Int.le_refl _, fun e he => by omega⟩
          · exact h.step.2 hl
        have HN := Lib.hid hnew
        generalize fq 2 (ks.getD i 0) = u1 at *
        generalize fq 2 (ks.getD d 0) = u2 at *
        clear b1 b2 hl hnew
        go_wp2
        go_roundw
        case rel => exact ⟨d, i + 1, _, rfl, by go_num, by omega, .inr HN.out, rfl⟩
        case measure => simp [intOf]; omega
    · obtain rfl : i = n := by omega
      have hnew : FstL ks i d := by
        rcases HD.out with ⟨h1, h2⟩ | h
        · omega
        · exact h
      have HN := Lib.hid hnew
      clear hnew
      go_wp2
      go_ret
      exact ⟨d, rfl, HN.out, m, rfl⟩

/-- A cell of a whole map is none that is not. -/
theorem isWhole1_any (W : World) (vb : Nat) (wd hi dp : Nat) (sv : Value) (m : Nat) (hd : dp ≤ 8) (hm : m < dp) (hb : BoxN W vb #[.int .i64 wd, .int .i64 hi, .int .i64 dp, sv] 26) :
    Calls Try.prog 70 #[.float .f32 (wW m), .pointer (some ⟨vb, 0, none⟩)] W fun e w' => e = .returned (.bool false) ∧ ∃ n, w' = W.drewN n := by
  obtain ⟨z0, z1, z2, z3, -, -, -, -⟩ := hb.four
  have hp : plq (4 * (m : Int)) = m := by unfold plq; rw [if_neg (by omega), if_pos (by omega)]; omega
  have KP : ∀ n, Calls Try.prog 71 #[.float .f32 (wW m)] (W.drewN n) fun e w' => e = .returned (.int .i64 (m : Nat)) ∧ ∃ k, w' = W.drewN k := by
    intro n
    have := place_q (4 * (m : Int)) (W.drewN n) (by omega) (by omega)
    rw [← wW_q, hp] at this
    exact this.mono fun e w' ⟨h1, k, h2⟩ => ⟨h1, n + k, by rw [h2, World.drewN_drewN]⟩
  have KP := Lib.hid KP
  have of := fq_ofInt (n := (m : Int)) (by omega)
  have e0 := wW_def m
  rw [e0] at of
  have eqv := eq32_fq (g := 0) (a := (m : Int)) (b := (m : Int)) (by omega) (by omega)
  rw [e0, decide_eq_true rfl] at eqv
  have hin : (decide ((0 : Int) ≤ m) && decide ((m : Int) ≤ (dp : Int) - 1)) = true := by simp; omega
  have KI : ∀ n, Calls Try.prog 49 #[.int .i64 m, .int .i64 0, .int .i64 ((dp : Int) - 1)] (W.drewN n) fun e w' => e = .returned (.bool true) ∧ ∃ k, w' = W.drewN k := by
    intro n
    have := in_any (m : Int) 0 ((dp : Int) - 1) (W.drewN n)
    rw [hin] at this
    exact quiet_same this
  have KI := Lib.hid KI
  have d8 : (dp : Int) ≤ 8 := by omega
  generalize wW m = z at *
  clear e0 hp
  go_enter Try.func70, Try.ntmps70
  go_wp2_with fail
  go_quiet (first | with_reducible exact KP.out _ | with_reducible exact KI.out _)
  go_wp2
  go_ret
  exact ⟨rfl, _, rfl⟩

end Go.Proofs.Ytfhlpabbacopjaa
