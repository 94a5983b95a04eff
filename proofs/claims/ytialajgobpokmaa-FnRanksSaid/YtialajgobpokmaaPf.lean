/- Boxes of pictures, mirrored ones; flat pictures. -/
import Derived.Test.YtialajgobpokmaaPe
namespace Go.Proofs.Ytialajgobpokmaa
open Go.RowKit
set_option maxRecDepth 100000
set_option linter.unusedVariables false
set_option linter.unusedSimpArgs false

theorem sumN_bd2 {F : Nat → Int} {A B : Int} (n : Nat) (h : ∀ i, i < n → A ≤ F i ∧ F i ≤ B) : A * n ≤ sumN n F ∧ sumN n F ≤ B * n := by
  induction n with
  | zero => simp [sumN]
  | succ n ih =>
    have h1 := ih (fun i hi => h i (by omega))
    have h2 := h n (by omega)
    rw [Int.natCast_add, Int.natCast_one, Int.mul_add, Int.mul_add, Int.mul_one, Int.mul_one]
    show _ ≤ sumN n F + F n ∧ sumN n F + F n ≤ _
    omega
/-- The mean of a window. -/
def boxW (ks : List Int) (wd hi r : Nat) (x y : Nat) : Nat := fop .quo (fq 2 (winS ks wd hi x y r)) (fq 0 ((2 * r + 1) * (2 * r + 1) : Nat))

theorem boxW_bd {ks : List Int} {wd hi r : Nat} {L H : Int} (x y : Nat) (hk : ∀ i, i < wd * hi → L ≤ ks.getD i 0 ∧ ks.getD i 0 ≤ H) (hw : 0 < wd) (hh : 0 < hi) (hr : r ≤ 3) (h1 : 0 ≤ L) (h2 : L ≤ H) (h3 : H ≤ 1000) : Bd L H (boxW ks wd hi r x y) := by
  obtain ⟨M, hM⟩ : ∃ M : Nat, M = (2 * r + 1) * (2 * r + 1) := ⟨_, rfl⟩
  have hM1 : 1 ≤ M := by rw [hM]; exact Nat.mul_pos (by omega) (by omega)
  have hM2 : M ≤ 7 * 7 := by rw [hM]; exact Nat.mul_le_mul (by omega) (by omega)
  have hs : L * (2 * r + 1 : Nat) * (2 * r + 1 : Nat) ≤ winS ks wd hi x y r ∧ winS ks wd hi x y r ≤ H * (2 * r + 1 : Nat) * (2 * r + 1 : Nat) :=
    sumN_bd2 (2 * r + 1) (fun j _ => sumN_bd2 (2 * r + 1) (fun i _ => hk _ (ix_lt _ _ hw hh)))
  rw [Int.mul_assoc, Int.mul_assoc, ← Int.natCast_mul, ← hM] at hs
  have k0 : 0 ≤ L * (M : Int) := Int.mul_nonneg h1 (by omega)
  have k1 : H * (M : Int) ≤ 1000 * 49 := Int.le_trans (Int.mul_le_mul_of_nonneg_right h3 (by omega)) (Int.mul_le_mul_of_nonneg_left (by omega) (by decide))
  unfold boxW
  rw [← hM]
  refine Bd.fopQuo (n := M) ?_ h1 (by rw [Int.mul_comm]; omega) (by omega) (by omega) h2
  rw [Int.mul_comm (M : Int) L, Int.mul_comm (M : Int) H]
  exact Bd.of hs.1 hs.2 k0 (by omega)

theorem box_gives {W0 : World} {pb wd hi rb r : Nat} {v : Value} {ks : List Int} (h : PicAt W0 pb wd hi v (ks.map (fq 2)) 26) (hw : 0 < wd) (hh : 0 < hi) (hw2 : wd ≤ 24) (hh2 : hi ≤ 24) (hr : r ≤ 3) (hk : ∀ k ∈ ks, 0 ≤ k ∧ k ≤ 1000) (hq : W0.cell? ⟨rb, 0, none⟩ = some (.int .i64 r)) (hqb : rb < W0.heap.size) :
    Gives2 W0 (.func (.func 34) #[] #[.pointer (some ⟨pb, 0, none⟩), .pointer (some ⟨rb, 0, none⟩)]) wd hi (boxW ks wd hi r) := by
  refine ⟨34, _, rfl, Try.call34, fun x y W hx hy hbW => ?_⟩
  have hp := h.below hbW
  have hq' : W.cell? ⟨rb, 0, none⟩ = some (.int .i64 r) := by rw [hbW.cell (p := ⟨rb, 0, none⟩) hqb]; exact hq
  clear hq
  show Calls _ _ #[.int .i64 x, .int .i64 y, .pointer (some ⟨pb, 0, none⟩), .pointer (some ⟨rb, 0, none⟩)] _ _
  go_enter Try.func34, Try.ntmps34
  go_wp2_with fail
  refine (boxed_q _ pb wd hi v ks x y r hw hh hw2 hh2 (by omega) (by omega) hr hk hp).mono ?_
  rintro e w' ⟨⟨z, hz, rfl⟩, n, rfl⟩
  have hbd := boxW_bd (ks := ks) (wd := wd) (hi := hi) (r := r) (L := 0) (H := 1000) x y (fun i _ => by
    rw [List.getD_eq_getElem?_getD]
    cases e : ks[i]? with
    | none => exact ⟨Int.le_refl _, by decide⟩
    | some z => exact hk z (List.mem_of_getElem? e)) hw hh hr (by decide) (by decide) (by decide)
  have hfz : boxW ks wd hi r x y = fl z := by unfold boxW fop; rw [hz]
  have hn : nan32 z = false := by rw [← nan32_fl, ← hfz]; exact hbd.nan
  have hlt : z < 4294967296 := by rw [← fl_eq hn, ← hfz]; exact hbd.lt
  have HF := Lib.hid hfz
  clear hz hbd hfz
  go_wp2
  go_ret
  exact ⟨z, rfl, hlt, HF.out.symm, below_drewN (Below.refl _ _) _⟩

theorem box_ok (w : World) (wd hi r : Nat) (sa : Option Addr) (c : Nat) (ks : List Int) (hr : r ≤ 3) (hk : ∀ k ∈ ks, 0 ≤ k ∧ k ≤ 1000) (h : PicOk w wd hi sa c (ks.map (fq 2))) :
    Calls Try.prog 9 #[.agg #[.int .i64 wd, .int .i64 hi, .slice sa (ks.map (fq 2)).length c], .int .i64 r] w (MakesPicOk w wd hi (boxW ks wd hi r)) := by
  obtain ⟨d1, d2, d3, d4, d5⟩ := h.dims
  have hV := h.vl
  have hin : (decide ((0 : Int) ≤ r) && decide ((r : Int) ≤ 3)) = true := by simp; omega
  have hb0 := (below_two w (.cells #[.int .i64 wd, .int .i64 hi, .slice sa (ks.map (fq 2)).length c] 26) (.cells #[.int .i64 r] 2)).alloc (by simp; omega) (.cells #[.int .i64 0, .int .i64 0, .slice none 0 0] 26)
  have hP := h.at hb0 ((box_first w _ _ _ _ _).below ((Below.refl _ _).alloc (Nat.le_refl _) _))
  generalize (ks.map (fq 2)).length = N at *
  go_enter Try.func9, Try.ntmps9
  go_wp2_with fail
  refine (in_any _ _ _ _).mono ?_
  rw [hin]
  rintro e w1 ⟨rfl, rfl⟩
  clear hin
  go_wp2_with fail
  refine (remade_ok _ wd hi _ sa c _ _ hV (box_gives (rb := w.heap.size + 1) hP d1 d2 d3 d4 hr hk (by simp [go_sem]) (by simp))).mono ?_
  rintro e w2 ⟨a, cc, bs', rfl, hown, hcon, hb2⟩
  have hbb := hb0.trans (hb2.mono hb0.size)
  obtain ⟨hc2, hf2⟩ := bcell hb2
  have hz2 : w.heap.size + 2 < w2.heap.size := by have := hb2.size; simp at this; omega
  go_wp2
  refine bodyPost_ret (v := .tuple #[.agg #[.int .i64 wd, .int .i64 hi, .slice a bs'.length cc], .bool true]) (by simp [results, Try.results9, go_sem, hc2, hz2]) rfl ?_
  exact ⟨a, cc, bs', rfl, (((hown.set (by first | omega | (simp; done) | (simp; omega)) _).set (by first | omega | (simp; done) | (simp; omega)) _).set (by first | omega | (simp; done) | (simp; omega)) _).mono (by first | omega | (simp; done) | (simp; omega)), hcon, ((hbb.setCell (by first | omega | (simp; done) | (simp; omega)) _).setCell (by first | omega | (simp; done) | (simp; omega)) _).setCell (by first | omega | (simp; done) | (simp; omega)) _⟩

theorem flatP2_gives {W0 : World} {qb v : Nat} (hv : v < 4294967296) (hq : W0.cell? ⟨qb, 0, none⟩ = some (.float .f32 v)) (hqb : qb < W0.heap.size) (wd hi : Nat) :
    Gives2 W0 (.func (.func 50) #[] #[.pointer (some ⟨qb, 0, none⟩)]) wd hi (fun _ _ => fl v) := by
  refine ⟨50, _, rfl, Try.call50, fun x y W hx hy hbW => ?_⟩
  have hq' : W.cell? ⟨qb, 0, none⟩ = some (.float .f32 v) := by rw [hbW.cell (p := ⟨qb, 0, none⟩) hqb]; exact hq
  clear hq
  show Calls _ _ #[.int .i64 x, .int .i64 y, .pointer (some ⟨qb, 0, none⟩)] _ _
  go_enter Try.func50, Try.ntmps50
  go_wp2
  go_ret
  exact ⟨v, rfl, hv, rfl, Below.refl _ _⟩

theorem flatP_ok (w : World) (wd hi v : Nat) (hv : v < 4294967296) (hs : szOk wd hi = true) :
    Calls Try.prog 15 #[.int .i64 wd, .int .i64 hi, .float .f32 v] w (MakesPicOk w wd hi fun _ _ => fl v) := by
  have hsp := szOk_spec hs
  have d1 : wd ≤ 24 := by omega
  have d2 : hi ≤ 24 := by omega
  have hb0 := below_two w (.cells #[.float .f32 v] 32) (.cells #[.int .i64 0, .int .i64 0, .slice none 0 0] 26)
  clear hsp
  go_enter Try.func15, Try.ntmps15
  go_wp2_with fail
  refine (sizeOk_any _ _ _).mono ?_
  rw [hs]
  rintro e w1 ⟨rfl, rfl⟩
  clear hs
  go_wp2_with fail
  refine (made_any _ wd hi _ _ d1 d2 (flatP2_gives (qb := w.heap.size) hv (by simp [go_sem]) (by simp; omega) wd hi)).mono ?_
  rintro e w2 ⟨a, cc, bs', rfl, hown, hcon, hb2⟩
  have hbb := hb0.trans (hb2.mono hb0.size)
  obtain ⟨hc2, hf2⟩ := bcell hb2
  have hz2 : w.heap.size + 1 < w2.heap.size := by have := hb2.size; simp at this; omega
  go_wp2
  refine bodyPost_ret (v := .tuple #[.agg #[.int .i64 wd, .int .i64 hi, .slice a bs'.length cc], .bool true]) (by simp [results, Try.results15, go_sem, hc2, hz2]) rfl ?_
  exact ⟨a, cc, bs', rfl, (((hown.set (by first | omega | (simp; done) | (simp; omega)) _).set (by first | omega | (simp; done) | (simp; omega)) _).set (by first | omega | (simp; done) | (simp; omega)) _).mono (by first | omega | (simp; done) | (simp; omega)), hcon, ((hbb.setCell (by first | omega | (simp; done) | (simp; omega)) _).setCell (by first | omega | (simp; done) | (simp; omega)) _).setCell (by first | omega | (simp; done) | (simp; omega)) _⟩

/-- A mirrored picture's windows. -/
theorem cl_mirror (u : Int) {wd : Nat} (hw : 0 < wd) : cl ((wd : Int) - 1 - (cl u wd : Nat)) wd = cl ((wd : Int) - 1 - u) wd := by unfold cl; omega
def mirK (ks : List Int) (wd hi : Nat) : List Int := tabI (wd * hi) fun i => ks.getD (ix ((wd : Int) - 1 - (i % wd : Nat)) (i / wd : Nat) wd hi) 0
theorem mirK_get (ks : List Int) {wd hi : Nat} (hw : 0 < wd) (hh : 0 < hi) (X Y : Int) : (mirK ks wd hi).getD (ix X Y wd hi) 0 = ks.getD (ix ((wd : Int) - 1 - X) Y wd hi) 0 := by
  unfold mirK
  rw [tabI_get (ix_lt X Y hw hh)]
  have h1 := cl_lt X hw
  have e1 : ix X Y wd hi % wd = cl X wd := by unfold ix; rw [Nat.add_mul_mod_self_left, Nat.mod_eq_of_lt h1]
  have e2 : ix X Y wd hi / wd = cl Y hi := by unfold ix; rw [Nat.add_mul_div_left _ _ hw, Nat.div_eq_of_lt h1, Nat.zero_add]
  rw [e1, e2]
  congr 1
  unfold ix
  rw [cl_mirror X hw]
  congr 2
  unfold cl; omega
theorem winS_mirror (ks : List Int) {wd hi : Nat} (hw : 0 < wd) (hh : 0 < hi) (x y r : Nat) (hx : x < wd) : winS (mirK ks wd hi) wd hi x y r = winS ks wd hi ((wd - 1 - x : Nat) : Int) y r := by
  unfold winS
  apply sumN_congr
  intro j hj
  rw [← sumN_rev (2 * r + 1) (fun i => winF ks wd hi ((wd - 1 - x : Nat) : Int) y r j i)]
  apply sumN_congr
  intro i hi_
  unfold winF
  rw [mirK_get ks hw hh]
  congr 2
  omega
theorem mirK_mem {ks : List Int} {wd hi : Nat} (hl : ks.length = wd * hi) (hw : 0 < wd) (hh : 0 < hi) : ∀ k ∈ mirK ks wd hi, k ∈ ks := by
  intro k hk
  obtain ⟨i, hi_, rfl⟩ := mem_tabI hk
  rw [List.getD_eq_getElem?_getD, List.getElem?_eq_getElem (by rw [hl]; exact ix_lt _ _ hw hh)]
  exact List.getElem_mem _

end Go.Proofs.Ytialajgobpokmaa
