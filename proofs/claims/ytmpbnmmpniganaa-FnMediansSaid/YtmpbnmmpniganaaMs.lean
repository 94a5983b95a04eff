/- Ranges and means of maps; maps that are mirrored, rounded, subtracted. -/
import Derived.Test.YtmpbnmmpniganaaMr
import Derived.Test.YtmpbnmmpniganaaFm
namespace Go.Proofs.Ytmpbnmmpniganaa
open Go.RowKit
set_option maxRecDepth 100000
set_option linter.unusedVariables false
set_option linter.unusedSimpArgs false

theorem vPic_mul {wd hi N : Nat} (h : vPic wd hi N = true) : N = wd * hi ∧ 1 ≤ wd ∧ wd ≤ 24 ∧ 1 ≤ hi ∧ hi ≤ 24 ∧ N ≤ 256 ∧ 1 ≤ N := by
  obtain ⟨x1, x2, e1, e2, e3, b1, b2, b3, b4, b5⟩ := vPic_spec h
  have h1 : x1 = wd := by omega
  have h2 : x2 = hi := by omega
  subst h1 h2
  exact ⟨e3, b1, b2, b3, b4, by omega, by rw [e3]; exact Nat.mul_pos b1 b3⟩
theorem xy_lt {wd hi x y : Nat} (hx : x < wd) (hy : y < hi) : x + wd * y < wd * hi := by
  calc x + wd * y < wd + wd * y := by omega
    _ = wd * (y + 1) := by rw [Nat.mul_add, Nat.mul_one, Nat.add_comm]
    _ ≤ wd * hi := Nat.mul_le_mul_left _ hy
theorem xy_mod {x y wd : Nat} (hx : x < wd) : (x + wd * y) % wd = x := by rw [Nat.add_mul_mod_self_left, Nat.mod_eq_of_lt hx]
theorem xy_div {x y wd : Nat} (hx : x < wd) : (x + wd * y) / wd = y := by rw [Nat.add_mul_div_left _ _ (by omega), Nat.div_eq_of_lt hx, Nat.zero_add]
theorem MQ.pic {w W : World} {q c N pb wd hi : Nat} {ks : List Int} (h : MQ w q c N ks) (hb : Below w.heap.size w W) (hx : Box3 W pb (.int .i64 wd) (.int .i64 hi) (.slice (some ⟨q, 0, none⟩) N c) 27) (hN : N = wd * hi) : PicAt W pb wd hi (.slice (some ⟨q, 0, none⟩) N c) (ks.map (fq 2)) 27 :=
  ⟨hx, (h.below hb).sl, by rw [List.length_map, h.len, hN]⟩
theorem mat_q (W : World) (pb wd hi : Nat) (v : Value) (ks : List Int) (x y : Nat) (X Y : Int) (hX : X = x) (hY : Y = y) (hx : x < wd) (hy : y < hi) (hw2 : wd ≤ 1000) (hh2 : hi ≤ 1000) (h : PicAt W pb wd hi v (ks.map (fq 2)) 27) :
    Calls Try.prog 47 #[.pointer (some ⟨pb, 0, none⟩), .int .i64 X, .int .i64 Y] W fun e w' => e = .returned (.float .f32 (fq 2 (ks.getD (x + wd * y) 0))) ∧ ∃ n, w' = W.drewN n := by
  have e : (ks.map (fq 2)).getD (x + wd * y) 0 = fq 2 (ks.getD (x + wd * y) 0) := by
    have hl := h.len
    rw [List.length_map] at hl
    rw [List.getD_eq_getElem?_getD, List.getD_eq_getElem?_getD, List.getElem?_map, List.getElem?_eq_getElem (by rw [hl]; exact xy_lt hx hy)]; rfl
  rw [← e]
  exact mat_any W pb wd hi v _ x y X Y hX hY hx hy hw2 hh2 h
theorem PicAt.drew2 {W : World} {pb wd hi : Nat} {v : Value} {bs : List Nat} {T : TypeId} (h : PicAt W pb wd hi v bs T) (n : Nat) : PicAt (W.drewN n) pb wd hi v bs T := ⟨h.box, ⟨h.sl.1.drewN n, h.sl.2⟩, h.len⟩

theorem bcell2 {W w1 : World} (hb : Below W.heap.size W w1) : (∀ b o, b < W.heap.size → w1.cell? ⟨b, o, none⟩ = W.cell? ⟨b, o, none⟩) ∧ (∀ b o, b < W.heap.size → w1.frozen? ⟨b, o, none⟩ = W.frozen? ⟨b, o, none⟩) :=
  ⟨fun b o h => hb.cell (p := ⟨b, o, none⟩) h, fun b o h => hb.frozen (p := ⟨b, o, none⟩) h⟩
theorem MQ.set {W : World} {q c N ob i : Nat} {ks : List Int} (h : MQ W q c N ks) (hne : ob ≠ q) (v : Value) : MQ (W.setCell ⟨ob, i, none⟩ v) q c N ks :=
  ⟨⟨h.sl.1.grown (grown_setCell _ _ _) (.inr (by simpa [Value.ownBlock] using (Ne.symm hne))), h.sl.2⟩, by simpa using h.qlt, h.bd⟩

/-- A call that makes a map of one map: what is common. -/
theorem boxm (w : World) (wd hi N q c : Nat) (ks : List Int) (h : MQ w q c N ks) (hN : N = wd * hi) :
    PicAt (w.alloc (.cells #[.int .i64 wd, .int .i64 hi, .slice (some ⟨q, 0, none⟩) N c] 27)) w.heap.size wd hi (.slice (some ⟨q, 0, none⟩) N c) (ks.map (fq 2)) 27 :=
  h.pic (alb1 w _) (box_last w _ _ _ _) hN

theorem rangeOfMap_q (w : World) (wd hi N q c : Nat) (ks : List Int) (hv : vPic wd hi N = true) (h : MQ w q c N ks) :
    Calls Try.prog 32 #[.agg #[.int .i64 wd, .int .i64 hi, .slice (some ⟨q, 0, none⟩) N c]] w fun e w' => e = .returned (.tuple #[.float .f32 (fq 2 (rgF ks).1), .float .f32 (fq 2 (rgF ks).2.1), .bool (rgF ks).2.2]) ∧ Below w.heap.size w w' := by
  obtain ⟨e1, e2, e3, e4, e5, e6, e7⟩ := vPic_mul hv
  have hb0 := alb1 w (.cells #[.int .i64 wd, .int .i64 hi, .slice (some ⟨q, 0, none⟩) N c] 27)
  have B := box_last w (.int .i64 wd) (.int .i64 hi) (.slice (some ⟨q, 0, none⟩) N c) 27
  clear e1
  go_enter Try.func32, Try.ntmps32
  go_wp2_with fail
  refine (validMap_any _ _ _ _ _ (by omega) _).mono ?_
  rw [hv]
  rintro e w1 ⟨rfl, hb1⟩
  have hbb := hb0.trans (hb1.mono hb0.size)
  obtain ⟨c0, c1, c2, f0, f1, f2⟩ := (B.below hb1).cells
  have hm := h.below hbb
  have HM := Lib.hid hm
  have HBB := Lib.hid hbb
  clear hb0 B hb1 hbb hm h hv
  go_wp2_with fail
  refine (rangeOf_q _ q c N ks HM.out e6).mono ?_
  rintro e w2 ⟨rfl, rfl⟩
  go_wp2
  go_ret3
  exact ⟨rfl, HBB.out⟩

/-- The sum and the number of the values that are none of holes. -/
def mnS (o : Int × Nat) (k : Int) : Int × Nat := if k < 0 then o else (o.1 + k, o.2 + 1)
def mnF (ks : List Int) : Int × Nat := ks.foldl mnS (0, 0)
theorem mn_bd (ks : List Int) (hb : ∀ k ∈ ks, k.natAbs ≤ 1000) : ∀ o : Int × Nat, 0 ≤ o.1 → o.1 ≤ 1000 * o.2 → 0 ≤ (ks.foldl mnS o).1 ∧ (ks.foldl mnS o).1 ≤ 1000 * (ks.foldl mnS o).2 ∧ (ks.foldl mnS o).2 ≤ o.2 + ks.length := by
  induction ks with
  | nil => intro o h1 h2; exact ⟨h1, h2, by simp⟩
  | cons a l ih =>
    intro o h1 h2
    have ha := hb a (by simp)
    rw [List.foldl_cons, List.length_cons]
    have := ih (fun k hk => hb k (by simp [hk])) (mnS o a) (by unfold mnS; split <;> first | omega | (dsimp only; omega)) (by unfold mnS; split <;> first | omega | (dsimp only; omega))
    have h3 : (mnS o a).2 ≤ o.2 + 1 := by unfold mnS; split <;> first | omega | (dsimp only; omega)
    omega

/-- What the mean of a list of quarters gives. -/
def MeanQ (ks : List Int) (W : World) (e : Ending) (w' : World) : Prop :=
  W = w' ∧ (((mnF ks).2 = 0 ∧ e = .returned (.tuple #[.float .f32 0, .bool false])) ∨ ((mnF ks).2 ≠ 0 ∧ ∃ r, floatBits .quo .f32 (fq 2 (mnF ks).1) (fq 0 ((mnF ks).2 : Nat)) = some r ∧ e = .returned (.tuple #[.float .f32 r, .bool true])))

theorem mean_q (w : World) (q c N : Nat) (ks : List Int) (h : MQ w q c N ks) (hN : N ≤ 256) :
    Calls Try.prog 86 #[.slice (some ⟨q, 0, none⟩) N c] w (MeanQ ks w) := by
  have HG := Lib.hid h.get
  have HB := Lib.hid h.kb
  have HL := Lib.hid h.len
  have hcap := h.cap
  have HQ := Lib.hid (fun i => mn_bd (ks.take i) (fun k hk => h.bd k (List.mem_of_mem_take hk)) (0, 0) (by decide) (by decide))
  clear h
  go_enter Try.func86, Try.ntmps86
  go_wp2_with fail
  go_loop [4, 5, 10] (fun v4 v5 v10 => ∃ i : Nat, v4 = .float .f32 (fq 2 ((ks.take i).foldl mnS (0, 0)).1) ∧ v5 = .int .i64 (((ks.take i).foldl mnS (0, 0)).2 : Nat) ∧ v10 = .int .i64 i ∧ i ≤ N) (fun v4 v5 v10 => N - (intOf v10).toNat)
  case atStart => exact ⟨0, by simp [fq_zero], rfl, rfl, Nat.zero_le _⟩
  case round =>
    obtain ⟨i, rfl, rfl, rfl, hi⟩ := hrel
    obtain ⟨q1, q2, q3⟩ := HQ.out i
    rw [List.length_take, HL.out] at q3
    by_cases hlt : i < N
    · have k1 := HG.out i hlt
      have hk := HB.out i
      have hs := foldl_take mnS (0, 0) ks i (by rw [HL.out]; exact hlt)
      have h0 := le0_fq (k := ks.getD i 0) (by omega)
      generalize (ks.take i).foldl mnS (0, 0) = s at *
      generalize ks.getD i 0 = k at *
      obtain ⟨sv, m⟩ := s
      dsimp only at q1 q2 q3 ⊢
      have HS := Lib.hid hs
      clear hs
      have hmm : m ≤ 256 := by omega
      by_cases hk0 : 0 ≤ k
      · simp only [hk0, decide_true] at h0
        have hsv : mnS (sv, m) k = (sv + k, m + 1) := by unfold mnS; rw [if_neg (by omega)]
        have HSV := Lib.hid hsv
        have ad := fq_add (g := 2) (a := sv) (b := k) (by omega) (by omega) (by omega)
        obtain ⟨y, hy⟩ : ∃ y, y = fq 2 (sv + k) := ⟨_, rfl⟩
        rw [← hy] at ad
        have HY := Lib.hid hy
        generalize fq 2 k = x at *
        generalize fq 2 sv = z at *
        have ar := fres_some ad
        have af := fdr_some ad
        have hd0 : ∀ W : World, W.drewN 0 = W := fun _ => rfl
        clear hsv hk hk0 hy q1 q2 q3 ad
        go_wp2_with fail
        refine (noHole_any _ _).mono ?_
        rw [h0]
        rintro e w2 ⟨rfl, rfl⟩
        go_wp2
        go_round
        case rel => exact ⟨i + 1, by rw [HS.out, HSV.out, HY.out], by rw [HS.out, HSV.out]; go_num, by go_num, by omega⟩
        case measure => simp [intOf]; omega
      · simp only [hk0, decide_false] at h0
        have hsv : mnS (sv, m) k = (sv, m) := by unfold mnS; rw [if_pos (by omega)]
        have HSV := Lib.hid hsv
        obtain ⟨z, hz⟩ : ∃ z, z = fq 2 sv := ⟨_, rfl⟩
        have HZ := Lib.hid hz
        rw [← hz]
        generalize fq 2 k = x at *
        clear hsv hk hk0 q1 q2 q3 hz
        go_wp2_with fail
        refine (noHole_any _ _).mono ?_
        rw [h0]
        rintro e w2 ⟨rfl, rfl⟩
        go_wp2
        go_round
        case rel => exact ⟨i + 1, by rw [HS.out, HSV.out, HZ.out], by rw [HS.out, HSV.out], by go_num, by omega⟩
        case measure => simp [intOf]; omega
    · obtain rfl : i = N := by omega
      have hfull := foldl_full mnS (0, 0) ks i HL.out
      rw [hfull] at q1 q2 q3
      rw [hfull]
      have he : ks.foldl mnS (0, 0) = mnF ks := rfl
      rw [he] at q1 q2 q3
      rw [he]
      by_cases hm : (mnF ks).2 = 0
      · have hm2 : (((mnF ks).2 : Nat) : Int) = 0 := by omega
        have HM := Lib.hid hm
        clear hfull he hlt hm q1 q2 q3
        go_wp2
        go_ret2
        exact ⟨rfl, .inl ⟨HM.out, rfl⟩⟩
      · have hm2 : ¬ (((mnF ks).2 : Nat) : Int) = 0 := by omega
        have HM := Lib.hid hm
        obtain ⟨r, hr, -⟩ := quo_q (s := (mnF ks).1) (m := ((mnF ks).2 : Nat)) (lo := -1) (hi := 1000) q1 (by omega) (by omega) (by omega) (by decide) (by decide) (by omega) (by omega)
        have hof := fq_ofInt (n := (((mnF ks).2 : Nat) : Int)) (by omega)
        have HR := Lib.hid hr
        rw [← hof] at hr
        have ar := fres_some hr
        have af := fdr_some hr
        have hd0 : ∀ W : World, W.drewN 0 = W := fun _ => rfl
        clear hfull he hlt hm q1 q2 q3 hof hr
        go_wp2
        go_ret2
        exact ⟨rfl, .inr ⟨HM.out, r, HR.out, rfl⟩⟩

/-- A function value that reads maps of quarters and tells quarters. -/
theorem gives_q {fid : FuncId} {caps : Array Value} {W0 : World} {wd hi : Nat} (F : Nat → Int) (hb : ∀ x y, x < wd → y < hi → (F (x + wd * y)).natAbs ≤ 16777216)
    (hcall : ∀ args w, (callFunc fid args).run Try.prog w = .ok (.enter fid args) w)
    (hrun : ∀ (x y : Nat) (W : World), x < wd → y < hi → Below W0.heap.size W0 W → Calls Try.prog fid (#[.int .i64 x, .int .i64 y] ++ caps) W fun e w' => e = .returned (.float .f32 (fq 2 (F (x + wd * y)))) ∧ ∃ n, w' = W.drewN n) :
    Gives2 W0 (.func (.func fid) #[] caps) wd hi (fun x y => fq 2 (F (x + wd * y))) := by
  refine ⟨fid, caps, rfl, hcall, fun x y W hx hy hbW => ?_⟩
  refine (hrun x y W hx hy hbW).mono ?_
  rintro e w' ⟨rfl, n, rfl⟩
  exact ⟨_, rfl, fq_lt (hb x y hx hy), fl_fq (hb x y hx hy), below_drewN (Below.refl _ _) n⟩
theorem drewN_drewN (W : World) (n m : Nat) : ∃ k, (W.drewN n).drewN m = W.drewN k := ⟨n + m, by simp [World.drewN, Nat.add_assoc]⟩

end Go.Proofs.Ytmpbnmmpniganaa
