/- Paths: what the laws need of the functions, said over volumes of quarters. -/
import Derived.Test.YtfhlpabbacopjaaPt
import Derived.Test.YtfhlpabbacopjaaRv
namespace Go.Proofs.Ytfhlpabbacopjaa
open Go.RowKit
set_option maxRecDepth 100000
set_option linter.unusedVariables false
set_option linter.unusedSimpArgs false

theorem sumPaths_ok (w : World) (wd hi dp b off c m : Nat) (bs : List Nat) (own : Int → Int → List Int) (one more : Int)
    (h : VolOk w wd hi dp b off c bs) (hblt : b < w.heap.size) (hq : QV bs wd hi dp own) (hm1 : 1 ≤ m) (hm : m ≤ 8) (hqb : ∀ x y, insI x y wd hi → qb2 (own x y)) (h1 : 0 ≤ one) (h2 : one ≤ more) (h3 : more ≤ 1000000) :
    Calls Try.prog 18 #[.agg #[.int .i64 wd, .int .i64 hi, .int .i64 dp, .slice (some ⟨b, off, none⟩) bs.length c], .agg #[.float .f32 (fq 2 one), .float .f32 (fq 2 more)], .int .i64 m] w fun e w' =>
      ∃ (q c : Nat) (bs : List Nat) (Ps : Nat → Int → Int → List Int), e = .returned (.tuple #[.agg #[.int .i64 wd, .int .i64 hi, .int .i64 dp, .slice (some ⟨q, 0, none⟩) (List.length bs) c], .bool true]) ∧ OwnF w' w.heap.size (.slice (some ⟨q, 0, none⟩) (List.length bs) c) bs ∧
      bs = ((List.range (wd * hi * dp)).map fun i => sumI8 wd dp Ps m i).map (fq 2) ∧ (∀ k, k < m → IsAlong (pathG (fun _ _ _ _ => (one, more)) (wayX k) (wayY k)) own (wayX k) (wayY k) wd hi (Ps k) ∧ ∀ x y, insI x y wd hi → PathOkI own dp x y (Ps k x y)) ∧ Below w.heap.size w w' := by
  obtain ⟨d1, d2, d3, d4, d5, d6, d7, d8⟩ := h.dims
  obtain ⟨k, rfl⟩ : ∃ k, m = k + 1 := ⟨m - 1, by omega⟩
  have K := Lib.hid (fun W => pathOk_yes W wd hi dp k (some ⟨b, off, none⟩) bs.length c one more h.vl (by omega) h1 h2 h3)
  have hb0 := (below_two w (.cells #[.int .i64 wd, .int .i64 hi, .int .i64 dp, .slice (some ⟨b, off, none⟩) bs.length c] 26) (.cells #[.float .f32 (fq 2 one), .float .f32 (fq 2 more)] 30)).alloc (by simp; omega) (.cells #[.int .i64 0, .int .i64 0, .int .i64 0, .slice none 0 0] 26)
  have KG := Lib.hid (fun W => same_gives W wd hi one more)
  have H := Lib.hid h
  have b1 : (k : Int) ≤ 7 := by omega
  generalize hVO : fq 2 one = vo at *
  generalize hVM : fq 2 more = vm at *
  clear hVO hVM h
  go_enter Try.func18, Try.ntmps18
  go_wp2_with fail
  refine (K.out _).mono ?_
  rintro e w1 ⟨rfl, hb1⟩
  obtain ⟨hc1, hf1⟩ := bcellV hb1
  have hbb := hb0.trans (hb1.mono hb0.size)
  have hz1 : w.heap.size + 2 < w1.heap.size := by have := hb1.size; simp at this; omega
  have HBB := Lib.hid hbb
  clear hb1 hb0
  go_wp2_with fail
  refine (sums_any w1 wd hi dp b off c (k + 1) bs own _ _ (H.out.below HBB.out) (by omega) hq hm hqb (KG.out w1) (fun x y u t _ _ => ⟨h1, by show 0 ≤ more; omega, by show one ≤ _; omega, h3⟩)).mono ?_
  rintro e w2 ⟨q, cc, bs', Ps, rfl, hown, hqv, hal, hb2⟩
  have hbc := hbb.trans (hb2.mono hbb.size)
  obtain ⟨hc2, hf2⟩ := bcellV hb2
  have hz2 : w.heap.size + 2 < w2.heap.size := by have := hb2.size; omega
  have HQ := Lib.hid hqv
  have HA := Lib.hid hal
  clear hqv hal
  go_wp2
  refine bodyPost_ret (v := .tuple #[.agg #[.int .i64 wd, .int .i64 hi, .int .i64 dp, .slice (some ⟨q, 0, none⟩) bs'.length cc], .bool true]) (by simp [results, Try.results18, go_sem, hc2, hz2, hc1, hz1]) rfl ?_
  exact ⟨q, cc, bs', Ps, rfl, ((((hown.set (by first | omega | (simp; done) | (simp; omega)) _).set (by first | omega | (simp; done) | (simp; omega)) _).set (by first | omega | (simp; done) | (simp; omega)) _).set (by first | omega | (simp; done) | (simp; omega)) _).mono (by first | omega | (simp; done) | (simp; omega)), HQ.out, HA.out, (((hbc.setCell (by first | omega | (simp; done) | (simp; omega)) _).setCell (by first | omega | (simp; done) | (simp; omega)) _).setCell (by first | omega | (simp; done) | (simp; omega)) _).setCell (by first | omega | (simp; done) | (simp; omega)) _⟩

theorem r8Prices_any (w : World) (a : Option Addr) (len cap : Nat) (h : BytesIn w a len) :
    Calls Try.prog 10 #[.slice a len cap, .int .i64 0] w fun e w' => ∃ one more : Int, e = .returned (.agg #[.float .f32 (fq 2 one), .float .f32 (fq 2 more)]) ∧ 0 ≤ one ∧ one ≤ more ∧ more ≤ 12 ∧ Below w.heap.size w w' := by
  have hl := h.1
  have fin : ∀ x y : Int, 0 ≤ x → x ≤ 6 → 0 ≤ y → y ≤ 6 → (∀ W, fres .quo .f32 (floatOfInt .f32 x) 1082130432 W = fq 2 x) ∧ fdr .quo .f32 (floatOfInt .f32 x) 1082130432 = 0 ∧ (∀ W, fres .quo .f32 (floatOfInt .f32 (x + y)) 1082130432 W = fq 2 (x + y)) ∧ fdr .quo .f32 (floatOfInt .f32 (x + y)) 1082130432 = 0 := by
    intro x y x0 x1 y0 y1
    obtain ⟨x, rfl⟩ := Int.eq_ofNat_of_zero_le x0
    obtain ⟨y, rfl⟩ := Int.eq_ofNat_of_zero_le y0
    have e1 := quo4 x (by omega)
    have e2 := quo4 (x + y) (by omega)
    rw [Int.natCast_add] at e2
    exact ⟨fres_some e1, fdr_some e1, fres_some e2, fdr_some e2⟩
  by_cases h2 : 0 < len
  · rcases h.2 with h0 | ⟨b, off, rfl, hb, hc⟩
    · omega
    · obtain ⟨z, hz, hz0, hz1⟩ := hc 0 h2
      rw [Nat.add_zero] at hz
      have hq := fin (z % 7) (z / 7 % 7) (by omega) (by omega) (by omega) (by omega)
      obtain ⟨p1, p2, p3, p4⟩ := hq
      have m1 : 0 ≤ z % 7 ∧ z % 7 ≤ 6 ∧ 0 ≤ z / 7 % 7 ∧ z / 7 % 7 ≤ 6 := by omega
      obtain ⟨m1, m2, m3, m4⟩ := m1
      have h3 : (0 : Int) < (len : Int) := by omega
      clear hc h fin
      generalize hvx : fq 2 (z % 7) = vx at *
      generalize hvy : fq 2 (z % 7 + z / 7 % 7) = vy at *
      have HX := Lib.hid hvx
      have HY := Lib.hid hvy
      clear hvx hvy
      go_enter Try.func10, Try.ntmps10
      go_wp2
      refine bodyPost_ret (v := .agg #[.float .f32 vx, .float .f32 vy]) (by simp [results, Try.results10, go_sem, p1, p2, p3, p4]) rfl ?_
      exact ⟨z % 7, z % 7 + z / 7 % 7, by rw [HX.out, HY.out], m1, by omega, by omega, (((below_drewN ((Below.refl _ _).alloc (Nat.le_refl _) _) _).setCell (by simp) _).setCell (by simp) _)⟩
  · have h3 : ¬ (0 : Int) < (len : Int) := by omega
    obtain ⟨p1, p2, p3, p4⟩ := fin 2 3 (by omega) (by omega) (by omega) (by omega)
    have p3 : ∀ W, fres .quo .f32 (floatOfInt .f32 5) 1082130432 W = fq 2 5 := p3
    have p4 : fdr .quo .f32 (floatOfInt .f32 5) 1082130432 = 0 := p4
    clear fin h
    generalize hvx : fq 2 2 = vx at *
    generalize hvy : fq 2 5 = vy at *
    have HX := Lib.hid hvx
    have HY := Lib.hid hvy
    clear hvx hvy
    go_enter Try.func10, Try.ntmps10
    go_wp2
    refine bodyPost_ret (v := .agg #[.float .f32 vx, .float .f32 vy]) (by simp [results, Try.results10, go_sem, p1, p2, p3, p4]) rfl ?_
    exact ⟨2, 5, by rw [HX.out, HY.out], by omega, by omega, by omega, (((below_drewN ((Below.refl _ _).alloc (Nat.le_refl _) _) _).setCell (by simp) _).setCell (by simp) _)⟩

/-- A volume of quarters in a box. -/
structure VB (W : World) (ob wd hi dp q c : Nat) (bs : List Nat) (P : Int → Int → List Int) : Prop where
  box : BoxN W ob #[.int .i64 wd, .int .i64 hi, .int .i64 dp, .slice (some ⟨q, 0, none⟩) bs.length c] 26
  sl : SlF W (.slice (some ⟨q, 0, none⟩) bs.length c) bs
  qlt : q < W.heap.size
  qv : QV bs wd hi dp P
theorem VB.below {W W' : World} {ob wd hi dp q c : Nat} {bs : List Nat} {P : Int → Int → List Int} (h : VB W ob wd hi dp q c bs P) (hb : Below W.heap.size W W') : VB W' ob wd hi dp q c bs P :=
  ⟨h.box.below hb, h.sl.below hb, Nat.lt_of_lt_of_le h.qlt hb.size, h.qv⟩
theorem VB.ok {W : World} {ob wd hi dp q c : Nat} {bs : List Nat} {P : Int → Int → List Int} (h : VB W ob wd hi dp q c bs P) (hv : vVol wd hi dp (wd * hi * dp) = true) : VolOk W wd hi dp q 0 c bs := ⟨hv, h.sl, h.qv.1⟩
theorem VB.made {W : World} {wd hi dp q c B : Nat} {bs : List Nat} {P : Int → Int → List Int} (h : OwnF W B (.slice (some ⟨q, 0, none⟩) bs.length c) bs) (hq : QV bs wd hi dp P) : VB (W.alloc (.cells #[.int .i64 wd, .int .i64 hi, .int .i64 dp, .slice (some ⟨q, 0, none⟩) bs.length c] 26)) W.heap.size wd hi dp q c bs P := by
  have ha : Below W.heap.size W (W.alloc (.cells #[.int .i64 wd, .int .i64 hi, .int .i64 dp, .slice (some ⟨q, 0, none⟩) bs.length c] 26)) := (Below.refl _ _).alloc (Nat.le_refl _) _
  have hq2 := (h.lt (k := q) rfl).2
  exact ⟨BoxN.last W _ _, h.sl.below ha, by simp; omega, hq⟩
theorem QV.same {bs cs : List Nat} {wd hi dp : Nat} {P Q : Int → Int → List Int} (h : QV bs wd hi dp P) (k : QV cs wd hi dp Q) (hd : 1 ≤ dp) (hw : 1 ≤ wd) (e : ∀ x y, insI x y wd hi → P x y = Q x y) : bs = cs := by
  rw [h.flat hd hw, k.flat hd hw]
  refine List.map_congr_left fun i hi' => ?_
  obtain ⟨p1, p2, p3, p4⟩ := place_parts hd hw (List.mem_range.1 hi')
  unfold fzI
  rw [e _ _ ⟨Int.natCast_nonneg _, Int.ofNat_lt.2 p1, Int.natCast_nonneg _, Int.ofNat_lt.2 p2⟩]

theorem scale_q {bs bs2 : List Nat} {wd hi dp : Nat} {P : Int → Int → List Int} (h : QV bs wd hi dp P) (hb : ∀ x y, insI x y wd hi → qb3 (P x y)) (h2 : bs2.map fl = tab3 wd hi dp fun x y d => fop .mul (fl (gc bs wd dp x y d)) (fl 1073741824)) : QV bs2 wd hi dp (fun x y => (P x y).map ((2 : Int) * ·)) := by
  have e2 : fl 1073741824 = fq 0 2 := by decide +kernel
  refine QV.of_tab h2 (fun x y hx hy => by rw [List.length_map]; exact (h.2 x y hx hy).1) (fun x y hx hy d hd => ?_) (fun x y d hx hy hd => ?_)
  · rw [getD_map_mul]
    have := (hb x y ⟨Int.natCast_nonneg _, Int.ofNat_lt.2 hx, Int.natCast_nonneg _, Int.ofNat_lt.2 hy⟩).get d
    omega
  · have hq := (hb x y ⟨Int.natCast_nonneg _, Int.ofNat_lt.2 hx, Int.natCast_nonneg _, Int.ofNat_lt.2 hy⟩).get d
    unfold gc
    rw [(h.2 x y hx hy).2 d hd, e2, getD_map_mul, fl_fq (by omega), fop_mul (by omega) (by omega) (by omega) (by omega) (by intro e; omega), Int.mul_comm]
theorem mirror_q {bs bs2 : List Nat} {wd hi dp : Nat} {P : Int → Int → List Int} (h : QV bs wd hi dp P) (hb : ∀ x y, insI x y wd hi → qb3 (P x y)) (h2 : bs2.map fl = tab3 wd hi dp fun x y d => fl (gc bs wd dp (wd - 1 - x) y d)) : QV bs2 wd hi dp (fun x y => P ((wd : Int) - 1 - x) y) := by
  have hn : ∀ x : Nat, x < wd → ((wd : Int) - 1 - (x : Int)) = ((wd - 1 - x : Nat) : Int) := fun x hx => by omega
  refine QV.of_tab h2 (fun x y hx hy => by rw [hn x hx]; exact (h.2 _ y (by omega) hy).1) (fun x y hx hy d hd => ?_) (fun x y d hx hy hd => ?_)
  · rw [hn x hx]
    have := (hb ((wd - 1 - x : Nat) : Int) y ⟨Int.natCast_nonneg _, Int.ofNat_lt.2 (by omega), Int.natCast_nonneg _, Int.ofNat_lt.2 hy⟩).get d
    omega
  · rw [hn x hx]
    have hq := (hb ((wd - 1 - x : Nat) : Int) y ⟨Int.natCast_nonneg _, Int.ofNat_lt.2 (by omega), Int.natCast_nonneg _, Int.ofNat_lt.2 hy⟩).get d
    unfold gc
    rw [(h.2 _ y (by omega) hy).2 d hd, fl_fq (by omega)]

/-! ### The plain laws -/
theorem along_bounds {own P : Int → Int → List Int} {wd hi dp k : Nat} {one more : Int} (h1 : 0 ≤ one) (h2 : 0 ≤ more) (h : IsAlong (pathG (fun _ _ _ _ => (one, more)) (wayX k) (wayY k)) own (wayX k) (wayY k) wd hi P) (hl : ∀ x y, insI x y wd hi → (own x y).length = dp ∧ (P x y).length = dp) {x y : Int} (hxy : insI x y wd hi) {d : Nat} (hd : d < dp) :
    (own x y).getD d 0 ≤ (P x y).getD d 0 ∧ (P x y).getD d 0 ≤ (own x y).getD d 0 + more := by
  rw [h x y hxy]
  by_cases hp : insI (x - wayX k) (y - wayY k) wd hi
  · rw [if_pos hp]
    exact pathF_bounds h1 h2 (by rw [(hl x y hxy).1, (hl _ _ hp).2]) (by rw [(hl x y hxy).1]; exact hd)
  · rw [if_neg hp]; omega
theorem along_scale {own P : Int → Int → List Int} {wd hi dp k : Nat} {one more : Int} (hd : 1 ≤ dp) (h : IsAlong (pathG (fun _ _ _ _ => (one, more)) (wayX k) (wayY k)) own (wayX k) (wayY k) wd hi P) (hl : ∀ x y, insI x y wd hi → (P x y).length = dp) :
    IsAlong (pathG (fun _ _ _ _ => (2 * one, 2 * more)) (wayX k) (wayY k)) (fun x y => (own x y).map ((2 : Int) * ·)) (wayX k) (wayY k) wd hi (fun x y => (P x y).map ((2 : Int) * ·)) := by
  intro x y hxy
  show (P x y).map _ = _
  rw [h x y hxy]
  by_cases hp : insI (x - wayX k) (y - wayY k) wd hi
  · rw [if_pos hp, if_pos hp]
    unfold pathG
    exact (pathF_scale one more 2 (by omega) _ _ (List.ne_nil_of_length_pos (by rw [hl _ _ hp]; omega))).symm
  · rw [if_neg hp, if_neg hp]
/-- The way that is mirrored. -/
def mirK : Nat → Nat
  | 0 => 1 | 1 => 0 | 2 => 2 | 3 => 3 | 4 => 6 | 5 => 7 | 6 => 4 | _ => 5
theorem mirK_way : ∀ k, k < 8 → mirK k < 8 ∧ wayX (mirK k) = -wayX k ∧ wayY (mirK k) = wayY k ∧ ∀ j, j < 8 → ((wayX j = -wayX k ∧ wayY j = wayY k) ↔ j = mirK k) := by
  have h : ∀ k : Fin 8, mirK k.val < 8 ∧ wayX (mirK k.val) = -wayX k.val ∧ wayY (mirK k.val) = wayY k.val ∧ ∀ j : Fin 8, ((wayX j.val = -wayX k.val ∧ wayY j.val = wayY k.val) ↔ j.val = mirK k.val) := by decide
  intro k hk
  obtain ⟨h1, h2, h3, h4⟩ := h ⟨k, hk⟩
  exact ⟨h1, h2, h3, fun j hj => h4 ⟨j, hj⟩⟩
theorem along_mirror {own P : Int → Int → List Int} {wd hi k : Nat} {one more : Int} (hk : k < 8) (h : IsAlong (pathG (fun _ _ _ _ => (one, more)) (wayX (mirK k)) (wayY (mirK k))) (fun x y => own ((wd : Int) - 1 - x) y) (wayX (mirK k)) (wayY (mirK k)) wd hi P) :
    IsAlong (pathG (fun _ _ _ _ => (one, more)) (wayX k) (wayY k)) own (wayX k) (wayY k) wd hi (fun x y => P ((wd : Int) - 1 - x) y) := by
  obtain ⟨m1, m2, m3, m4⟩ := mirK_way k hk
  intro x y hxy
  have hm : insI ((wd : Int) - 1 - x) y wd hi := by unfold insI at *; omega
  show P _ y = _
  rw [h _ y hm, m2, m3]
  have e1 : (wd : Int) - 1 - x - -wayX k = (wd : Int) - 1 - (x - wayX k) := by omega
  have e2 : (wd : Int) - 1 - ((wd : Int) - 1 - x) = x := by omega
  by_cases hp : insI (x - wayX k) (y - wayY k) wd hi
  · have hp2 : insI ((wd : Int) - 1 - x - -wayX k) (y - wayY k) wd hi := by unfold insI at *; omega
    rw [if_pos hp, if_pos hp2]
    unfold pathG
    simp only [e1, e2]
  · have hp2 : ¬ insI ((wd : Int) - 1 - x - -wayX k) (y - wayY k) wd hi := by unfold insI at *; omega
    rw [if_neg hp, if_neg hp2]
    simp only [e2]
theorem path_same {own P Q : Int → Int → List Int} {wd hi k : Nat} {one more : Int} (hk : k < 8) (hP : IsAlong (pathG (fun _ _ _ _ => (one, more)) (wayX k) (wayY k)) own (wayX k) (wayY k) wd hi P) (hQ : IsAlong (pathG (fun _ _ _ _ => (one, more)) (wayX k) (wayY k)) own (wayX k) (wayY k) wd hi Q) : ∀ x y, insI x y wd hi → P x y = Q x y :=
  along_unique (way_dir k hk) hP hQ (fun _ _ _ => rfl) (fun _ _ _ _ => rfl)

end Go.Proofs.Ytfhlpabbacopjaa
