/- Maps that are kept by shares; maps of twice and of half the size. Printed by genkm.py. -/
import Derived.Test.YtmpbnmmpniganaaMt
import Derived.Test.YtmpbnmmpniganaaTurn
namespace Go.Proofs.Ytmpbnmmpniganaa
open Go.RowKit
set_option maxRecDepth 100000
set_option linter.unusedVariables false
set_option linter.unusedSimpArgs false

theorem quiet_noHole {b : Nat} {v : Bool} (h : le32 0 b = v) {w : World} (n : Nat) : Calls Try.prog 55 #[.float .f32 b] (w.drewN n) fun e w'' => e = .returned (.bool v) ∧ ∃ m, w'' = w.drewN m := by
  refine quiet_same ((noHole_any b (w.drewN n)).mono ?_)
  rintro e w' ⟨rfl, rfl⟩
  rw [h]; exact ⟨rfl, rfl⟩
theorem quiet_drew {P : Program} {f : FuncId} {args : Array Value} {W : World} {n : Nat} {v : Value} (h : Calls P f args (W.drewN n) fun e w' => e = .returned v ∧ ∃ m, w' = (W.drewN n).drewN m) : Calls P f args (W.drewN n) fun e w' => e = .returned v ∧ ∃ m, w' = W.drewN m :=
  h.mono (by rintro e w' ⟨rfl, m, rfl⟩; obtain ⟨k, hk⟩ := drewN_drewN W n m; exact ⟨rfl, k, hk⟩)

/-- Kept, where a share lets it stay. -/
def keepF (ks js : List Int) (lst : Int) (i : Nat) : Int := if 0 ≤ ks.getD i 0 ∧ ¬ lst ≤ js.getD i 0 then -4 else ks.getD i 0
theorem keepF_bd {ks js : List Int} {lst : Int} {i : Nat} (h1 : (ks.getD i 0).natAbs ≤ 1000) : (keepF ks js lst i).natAbs ≤ 1000 := by unfold keepF; split <;> omega

set_option maxHeartbeats 1000000 in
theorem keepMap_q (w : World) (wd hi N q c q2 c2 : Nat) (mst : Nat) (ks js : List Int) (hv : vPic wd hi N = true) (h : MQ w q c N ks) (h2 : MQ w q2 c2 N js) (lst : Int) (hls : lst.natAbs ≤ 1000) (hms : Hid (mst = fq 2 lst)) :
    Calls Try.prog 12 #[.agg #[.int .i64 wd, .int .i64 hi, .slice (some ⟨q, 0, none⟩) N c], .agg #[.int .i64 wd, .int .i64 hi, .slice (some ⟨q2, 0, none⟩) N c2], .float .f32 mst] w (MakesMQ w wd hi N (tabI N (keepF ks js lst))) := by
  obtain ⟨e1, e2, e3, e4, e5, e6, e7⟩ := vPic_mul hv
  obtain ⟨W0, hW0⟩ : ∃ W0, W0 = ((((w.alloc (.cells #[.int .i64 wd, .int .i64 hi, .slice (some ⟨q, 0, none⟩) N c] 27)).alloc (.cells #[.int .i64 wd, .int .i64 hi, .slice (some ⟨q2, 0, none⟩) N c2] 27)).alloc (.cells #[.float .f32 mst] 33)).alloc (.cells #[.int .i64 0, .int .i64 0, .slice none 0 0] 27)) := ⟨_, rfl⟩
  have hb0 : Below w.heap.size w W0 := by rw [hW0]; exact (((alb1 w _).alloc (by simp) _).alloc (by simp; omega) _).alloc (by simp; omega) _
  have hX1 : Box3 W0 w.heap.size (.int .i64 wd) (.int .i64 hi) (.slice (some ⟨q, 0, none⟩) N c) 27 := by rw [hW0]; exact (((box_last w _ _ _ _).below (alb1 _ _)).below (alb1 _ _)).below (alb1 _ _)
  have hX2 : Box3 W0 (w.heap.size + 1) (.int .i64 wd) (.int .i64 hi) (.slice (some ⟨q2, 0, none⟩) N c2) 27 := by rw [hW0]; exact by have := ((box_last (w.alloc (.cells #[.int .i64 wd, .int .i64 hi, .slice (some ⟨q, 0, none⟩) N c] 27)) (.int .i64 wd) (.int .i64 hi) (.slice (some ⟨q2, 0, none⟩) N c2) 27).below (alb1 _ (.cells #[.float .f32 mst] 33))).below (alb1 _ (.cells #[.int .i64 0, .int .i64 0, .slice none 0 0] 27)); simpa using this
  have hX3 : ∀ W, Below W0.heap.size W0 W → W.cell? ⟨w.heap.size + 2, 0, none⟩ = some (.float .f32 mst) := fun W hW => by rw [hW.cell (p := ⟨w.heap.size + 2, 0, none⟩) (by rw [hW0]; simp)]; rw [hW0]; simp [go_sem]
  have HX3 := Lib.hid hX3
  clear hX3
  have hXZ : Box3 W0 (w.heap.size + 3) (.int .i64 0) (.int .i64 0) (.slice none 0 0) 27 := by rw [hW0]; have := box_last (((w.alloc (.cells #[.int .i64 wd, .int .i64 hi, .slice (some ⟨q, 0, none⟩) N c] 27)).alloc (.cells #[.int .i64 wd, .int .i64 hi, .slice (some ⟨q2, 0, none⟩) N c2] 27)).alloc (.cells #[.float .f32 mst] 33)) (.int .i64 0) (.int .i64 0) (.slice none 0 0) 27; simpa using this
  have hsz : W0.heap.size = w.heap.size + 4 := by rw [hW0]; simp
  have KO := Lib.hid (mapsOk_q W0 wd hi N q c q2 c2 hv)
  have HW0 := Lib.hid hW0
  have HM1 := Lib.hid (h.below hb0)
  have HM2 := Lib.hid (h2.below hb0)
  have HE1 := Lib.hid e1
  clear h h2 e1
  go_enter Try.func12, Try.ntmps12
  go_wp2_with fail
  rw [← HW0.out]
  refine KO.out.mono ?_
  rintro e w1 ⟨rfl, hb1⟩
  clear hW0
  have hbb1 := hb0.trans (hb1.mono hb0.size)
  have X1 := hX1.below hb1
  have X2 := hX2.below hb1
  have XZ := hXZ.below hb1
  obtain ⟨c0, c1, c2', -, -, -⟩ := X1.cells
  have hg := gives_q (fid := 54) (caps := #[.pointer (some ⟨w.heap.size, 0, none⟩), .pointer (some ⟨w.heap.size + 1, 0, none⟩), .pointer (some ⟨w.heap.size + 2, 0, none⟩)]) (W0 := w1) (wd := wd) (hi := hi) (keepF ks js lst) (fun x y hx hy => by have h := HM1.out; have h2 := HM2.out; have := keepF_bd (js := js) (lst := lst) (h.kb (x + wd * y)); omega) Try.call54 (by
    intro x y W hx hy hbW
    have hPW := (HM1.out.below hb1).pic hbW (X1.below hbW) HE1.out
    have hPV := (HM2.out.below hb1).pic hbW (X2.below hbW) HE1.out
    have HX3W := HX3.out W (hb1.trans (hbW.mono hb1.size))
    have hxy : x + wd * y < N := by rw [HE1.out]; exact xy_lt hx hy
    have hka := HM1.out.kb (x + wd * y)
    have hkb := HM2.out.kb (x + wd * y)
    have KM := Lib.hid (fun n => mat_q (W.drewN n) w.heap.size wd hi _ ks x y x y rfl rfl hx hy (by omega) (by omega) (hPW.drew2 n))
    have KV := Lib.hid (fun n X Y u v hX hY hu hv => mat_q (W.drewN n) (w.heap.size + 1) wd hi _ js u v X Y hX hY hu hv (by omega) (by omega) (hPV.drew2 n))
    clear HW0 KO X1 X2 XZ c0 c1 c2' hX1 hX2 hXZ hPW hPV hb1 hbb1 hb0
    have eF : keepF ks js lst (x + wd * y) = if 0 ≤ ks.getD (x + wd * y) 0 ∧ ¬ lst ≤ js.getD (x + wd * y) 0 then -4 else ks.getD (x + wd * y) 0 := rfl
    rw [eF]
    have KA := Lib.hid (fun n => quiet_drew (KM.out n))
    have KB := Lib.hid (fun n => quiet_drew (KV.out n x y x y rfl rfl hx hy))
    clear eF
    have l1 := le0_fq (k := ks.getD (x + wd * y) 0) (by omega)
    have l2 := le32_fq (g := 2) (a := lst) (b := js.getD (x + wd * y) 0) (by omega) (by omega)
    rw [← hms.out] at l2
    generalize ks.getD (x + wd * y) 0 = k at *
    generalize js.getD (x + wd * y) 0 = j at *
    have cm : fq 2 (-4) = 3212836864 := by decide +kernel
    obtain ⟨r, hr⟩ : ∃ r, r = fq 2 (if 0 ≤ k ∧ ¬ lst ≤ j then -4 else k) := ⟨_, rfl⟩
    rw [← hr]
    obtain ⟨vk, hvk⟩ : ∃ v, fq 2 k = v := ⟨_, rfl⟩
    obtain ⟨vj, hvj⟩ : ∃ v, fq 2 j = v := ⟨_, rfl⟩
    rw [hvk] at KA KM l1
    rw [hvj] at KB l2
    have hr1 : 0 ≤ k ∧ ¬ lst ≤ j → r = 3212836864 := fun e => by rw [hr, if_pos e, cm]
    have hr2 : ¬ (0 ≤ k ∧ ¬ lst ≤ j) → vk = r := fun e => by rw [hr, if_neg e, hvk]
    by_cases g1 : 0 ≤ k
    · by_cases g2 : lst ≤ j
      · have hr3 := hr2 (fun h => h.2 g2)
        simp only [g1, g2, decide_true] at l1 l2
        have HL1 := Lib.hid l1
        have HR := Lib.hid hr3
        clear hr hr1 hr2 hr3 hka hkb g1 g2 cm hvk hvj l1 hls hms
        show Calls _ _ #[.int .i64 x, .int .i64 y, .pointer (some ⟨w.heap.size, 0, none⟩), .pointer (some ⟨w.heap.size + 1, 0, none⟩), .pointer (some ⟨w.heap.size + 2, 0, none⟩)] _ _
        go_enter Try.func54, Try.ntmps54
        go_wp2_with fail
        go_quiet ((first | (with_reducible exact KA.out _) | (with_reducible exact KB.out _) | exact quiet_noHole HL1.out _))
        go_wp2_with fail
        refine (KM.out _).mono ?_
        rintro e w' ⟨rfl, n, rfl⟩
        go_wp2
        go_ret
        exact ⟨by rw [← HR.out]; rfl, _, rfl⟩
      · have hr3 := hr1 ⟨g1, g2⟩
        simp only [g1, g2, decide_true, decide_false] at l1 l2
        have HL1 := Lib.hid l1
        clear hr hr1 hr2 hka hkb g1 g2 cm hvk hvj l1 hls hms
        subst hr3
        show Calls _ _ #[.int .i64 x, .int .i64 y, .pointer (some ⟨w.heap.size, 0, none⟩), .pointer (some ⟨w.heap.size + 1, 0, none⟩), .pointer (some ⟨w.heap.size + 2, 0, none⟩)] _ _
        go_enter Try.func54, Try.ntmps54
        go_wp2_with fail
        go_quiet ((first | (with_reducible exact KA.out _) | (with_reducible exact KB.out _) | exact quiet_noHole HL1.out _))
        go_wp2
        go_ret
        exact ⟨rfl, _, rfl⟩
    · have hr3 := hr2 (fun h => g1 h.1)
      simp only [g1, decide_false] at l1
      have HL1 := Lib.hid l1
      have HR := Lib.hid hr3
      clear hr hr1 hr2 hr3 hka hkb g1 cm hvk hvj l1 l2 hls hms
      show Calls _ _ #[.int .i64 x, .int .i64 y, .pointer (some ⟨w.heap.size, 0, none⟩), .pointer (some ⟨w.heap.size + 1, 0, none⟩), .pointer (some ⟨w.heap.size + 2, 0, none⟩)] _ _
      go_enter Try.func54, Try.ntmps54
      go_wp2_with fail
      go_quiet ((first | (with_reducible exact KA.out _) | (with_reducible exact KB.out _) | exact quiet_noHole HL1.out _))
      go_wp2_with fail
      refine (KM.out _).mono ?_
      rintro e w' ⟨rfl, n, rfl⟩
      go_wp2
      go_ret
      exact ⟨by rw [← HR.out]; rfl, _, rfl⟩)
  have HG := Lib.hid hg
  have hbd : ∀ i, i < N → ((keepF ks js lst) i).natAbs ≤ 1000 := fun i hi => by have h := HM1.out; have h2 := HM2.out; exact keepF_bd (h.kb i)
  clear hg X1 X2 hX1 hX2 hXZ KO
  go_wp2_with fail
  refine (remap_q _ wd hi N _ c _ _ hv hbd HG.out).mono ?_
  rintro e w2 ⟨q3, c3, rfl, hm, hq, hb2⟩
  have hbb := hbb1.trans (hb2.mono hbb1.size)
  obtain ⟨d0, d1, d2, g0, g1, g2⟩ := (XZ.below hb2).cells
  have hz2 : w.heap.size + 3 < w2.heap.size := by have := hb2.size; have := hb1.size; omega
  have hq1 : w.heap.size + 4 ≤ q3 := by have := hb1.size; omega
  go_wp2
  refine bodyPost_ret (v := .tuple #[.agg #[.int .i64 wd, .int .i64 hi, .slice (some ⟨q3, 0, none⟩) N c3], .bool true]) (by simp [results, Try.results12, go_sem, d0, d1, d2, hz2]) rfl ?_
  exact ⟨q3, c3, rfl, ((hm.set (by simp; omega) _).set (by simp; omega) _).set (by simp; omega) _, by omega, ((hbb.setCell (by first | omega | (simp; done) | (simp; omega)) _).setCell (by first | omega | (simp; done) | (simp; omega)) _).setCell (by first | omega | (simp; done) | (simp; omega)) _⟩

/-- A map of twice the size. -/
def dblF (ks : List Int) (wd hi W2 : Nat) (i : Nat) : Int := if ks.getD (cl ((i % W2 / 2 : Nat) : Int) wd + wd * cl ((i / W2 / 2 : Nat) : Int) hi) 0 < 0 then -4 else 2 * ks.getD (cl ((i % W2 / 2 : Nat) : Int) wd + wd * cl ((i / W2 / 2 : Nat) : Int) hi) 0
theorem dblF_bd {ks : List Int} (h : ∀ i, (ks.getD i 0).natAbs ≤ 400) (wd hi W2 i : Nat) : (dblF ks wd hi W2 i).natAbs ≤ 1000 := by
  have := h (cl ((i % W2 / 2 : Nat) : Int) wd + wd * cl ((i / W2 / 2 : Nat) : Int) hi)
  unfold dblF; split <;> omega
theorem two_fq {k : Int} (h0 : 0 ≤ k) (h : k.natAbs ≤ 400) : floatBits .mul .f32 1073741824 (fq 2 k) = some (fq 2 (2 * k)) := by
  have e : (1073741824 : Nat) = fq 0 2 := by decide +kernel
  have := fq_mul (g := 0) (h := 2) (by omega) (a := 2) (b := k) (by decide) (by omega) (by omega) (by omega)
  rw [e]; exact this
theorem half_fq {k : Int} (h0 : 0 ≤ k) (h : k.natAbs ≤ 400) : floatBits .quo .f32 (fq 2 (2 * k)) 1073741824 = some (fq 2 k) := by
  have t : ∀ i : Fin 401, floatBits .quo .f32 (fq 2 (2 * (i.val : Int))) 1073741824 = some (fq 2 (i.val : Int)) := by decide +kernel
  have := t ⟨k.toNat, by omega⟩
  have e : ((k.toNat : Nat) : Int) = k := by omega
  simpa [e] using this

theorem double1_q (W : World) (pb wd hi q c N W2 x y : Nat) (ks : List Int) (hx : x < W2) (hw0 : 1 ≤ wd) (hh0 : 1 ≤ hi) (hw : wd ≤ 24) (hh : hi ≤ 24) (hkb : ∀ i, (ks.getD i 0).natAbs ≤ 400) (hP : PicAt W pb wd hi (.slice (some ⟨q, 0, none⟩) N c) (ks.map (fq 2)) 27) (hxl : x ≤ 24) (hyl : y ≤ 24) :
    Calls Try.prog 46 #[.int .i64 x, .int .i64 y, .pointer (some ⟨pb, 0, none⟩)] W fun e w' => e = .returned (.float .f32 (fq 2 (dblF ks wd hi W2 (x + W2 * y)))) ∧ ∃ n, w' = W.drewN n := by
  obtain ⟨z0, z1, z2, -, -, -⟩ := hP.box.cells
  have hF : dblF ks wd hi W2 (x + W2 * y) = if ks.getD (cl ((x / 2 : Nat) : Int) wd + wd * cl ((y / 2 : Nat) : Int) hi) 0 < 0 then -4 else 2 * ks.getD (cl ((x / 2 : Nat) : Int) wd + wd * cl ((y / 2 : Nat) : Int) hi) 0 := by
    unfold dblF; rw [xy_mod hx, xy_div hx]
  rw [hF]
  have k1 : ∀ n : Nat, Calls Try.prog 48 #[.int .i64 ((x / 2 : Nat) : Int), .int .i64 wd] (W.drewN n) fun e w' => e = .returned (.int .i64 (cl ((x / 2 : Nat) : Int) wd : Nat)) ∧ W.drewN n = w' := fun n => clamp_any _ wd hw0 (by omega) _
  have k2 : ∀ n : Nat, Calls Try.prog 48 #[.int .i64 ((y / 2 : Nat) : Int), .int .i64 hi] (W.drewN n) fun e w' => e = .returned (.int .i64 (cl ((y / 2 : Nat) : Int) hi : Nat)) ∧ W.drewN n = w' := fun n => clamp_any _ hi hh0 (by omega) _
  have c1 := cl_lt ((x / 2 : Nat) : Int) hw0
  have c2 := cl_lt ((y / 2 : Nat) : Int) hh0
  generalize cl ((x / 2 : Nat) : Int) wd = u at *
  generalize cl ((y / 2 : Nat) : Int) hi = v at *
  have KM := Lib.hid (fun n => quiet_drew (mat_q (W.drewN n) pb wd hi _ ks u v u v rfl rfl c1 c2 (by omega) (by omega) (hP.drew2 n)))
  have kb := hkb (u + wd * v)
  generalize ks.getD (u + wd * v) 0 = k at *
  have t1 : IntKind.i64.wrap ((x : Int) / 2) = (x : Int) / 2 := IntWalk.i64_in _ (by omega)
  have t2 : IntKind.i64.wrap ((y : Int) / 2) = (y : Int) / 2 := IntWalk.i64_in _ (by omega)
  have x2 : ((x / 2 : Nat) : Int) = (x : Int) / 2 := by omega
  have y2 : ((y / 2 : Nat) : Int) = (y : Int) / 2 := by omega
  rw [x2] at k1
  rw [y2] at k2
  have l1 := le0_fq (k := k) (by omega)
  have K1 := Lib.hid k1
  have K2 := Lib.hid k2
  have cm : fq 2 (-4) = 3212836864 := by decide +kernel
  by_cases h0 : 0 ≤ k
  · rw [if_neg (by omega)]
    have tw := two_fq h0 kb
    have ar := fres_some tw
    have af := fdr_some tw
    have hd0 : ∀ W : World, W.drewN 0 = W := fun _ => rfl
    rw [decide_eq_true h0] at l1
    generalize fq 2 (2 * k) = vr at *
    generalize fq 2 k = vk at *
    have HL := Lib.hid l1
    clear k1 k2 c1 c2 tw l1 h0 kb hF hP hkb cm x2 y2
    go_enter Try.func46, Try.ntmps46
    go_wp2_with fail
    go_quiet ((first | (with_reducible exact quiet_same (K1.out _)) | (with_reducible exact quiet_same (K2.out _)) | (with_reducible exact KM.out _)))
    go_wp2_with fail
    refine (isHole_any _ _).mono ?_
    rw [HL.out]
    rintro e w' ⟨rfl, rfl⟩
    go_wp2_with fail
    go_ret
    exact ⟨rfl, _, rfl⟩
  · rw [if_pos (by omega), cm]
    rw [decide_eq_false h0] at l1
    generalize fq 2 k = vk at *
    have HL := Lib.hid l1
    clear k1 k2 c1 c2 l1 h0 kb hF hP hkb cm x2 y2
    go_enter Try.func46, Try.ntmps46
    go_wp2_with fail
    go_quiet ((first | (with_reducible exact quiet_same (K1.out _)) | (with_reducible exact quiet_same (K2.out _)) | (with_reducible exact KM.out _)))
    go_wp2_with fail
    refine (isHole_any _ _).mono ?_
    rw [HL.out]
    rintro e w' ⟨rfl, rfl⟩
    go_wp2_with fail
    go_ret
    exact ⟨rfl, _, rfl⟩

/-- A map that is told anew, of quarters. -/
theorem mapOf_q (w : World) (wd hi N : Nat) (fv : Value) (F : Nat → Int) (hv : vPic wd hi N = true) (hb : ∀ i, i < N → (F i).natAbs ≤ 1000) (hf : Gives2 w fv wd hi (fun x y => fq 2 (F (x + wd * y)))) :
    Calls Try.prog 45 #[.int .i64 wd, .int .i64 hi, fv] w fun e w' => ∃ q c, e = .returned (.agg #[.int .i64 wd, .int .i64 hi, .slice (some ⟨q, 0, none⟩) N c]) ∧ MQ w' q c N (tabI N F) ∧ w.heap.size ≤ q ∧ Below w.heap.size w w' := by
  obtain ⟨e1, e2, e3, e4, e5, e6, e7⟩ := vPic_mul hv
  refine (mapOf_any w wd hi fv _ e3 e5 hf).mono ?_
  rintro e w2 ⟨a, cc, bs, rfl, hown, hcon, hb2⟩
  have hbs := bs_of_tab (fun i hi => by have := hb i (by rw [e1]; exact hi); omega) hcon
  have hl : bs.length = N := by rw [hbs, List.length_map, tabI_length, e1]
  rw [hl] at hown ⊢
  obtain ⟨q, rfl⟩ := own_ptr hown (by omega)
  refine ⟨q, cc, rfl, ⟨?_, (hown.lt (k := q) rfl).2, ?_⟩, (hown.lt (k := q) rfl).1, hb2⟩
  · have := hown.sl
    rw [hbs, ← e1] at this
    exact this
  · intro k hk
    obtain ⟨i, hi, rfl⟩ := mem_tabI hk
    exact hb i hi

set_option maxHeartbeats 1000000 in
theorem doubleMap_q (w : World) (wd hi N q c W2 H2 N2 : Nat) (ks : List Int) (hv : vPic wd hi N = true) (hv2 : vPic W2 H2 N2 = true) (h : MQ w q c N ks) (hkb : ∀ i, (ks.getD i 0).natAbs ≤ 400) :
    Calls Try.prog 10 #[.agg #[.int .i64 wd, .int .i64 hi, .slice (some ⟨q, 0, none⟩) N c], .int .i64 W2, .int .i64 H2] w (MakesMQ w W2 H2 N2 (tabI N2 (dblF ks wd hi W2))) := by
  obtain ⟨e1, e2, e3, e4, e5, e6, e7⟩ := vPic_mul hv
  obtain ⟨f1, f2, f3, f4, f5, f6, f7⟩ := vPic_mul hv2
  have hsz2 : szOk W2 H2 = true := szOk_of (by omega) (by omega) (by omega) (by omega) (by rw [← Int.natCast_mul, ← f1]; omega)
  obtain ⟨W0, hW0⟩ : ∃ W0, W0 = (w.alloc (.cells #[.int .i64 wd, .int .i64 hi, .slice (some ⟨q, 0, none⟩) N c] 27)).alloc (.cells #[.int .i64 0, .int .i64 0, .slice none 0 0] 27) := ⟨_, rfl⟩
  have hb0 : Below w.heap.size w W0 := by rw [hW0]; exact below_two w _ _
  have B : Box3 W0 w.heap.size (.int .i64 wd) (.int .i64 hi) (.slice (some ⟨q, 0, none⟩) N c) 27 := by rw [hW0]; exact box_first w _ _ _ _ _
  have BZ : Box3 W0 (w.heap.size + 1) (.int .i64 0) (.int .i64 0) (.slice none 0 0) 27 := by rw [hW0]; exact box_second w _ _ _ _ _
  have HP := Lib.hid ((h.below hb0).pic (Below.refl _ _) B e1)
  have HW0 := Lib.hid hW0
  have HB := Lib.hid (And.intro hb0 (And.intro B BZ))
  have HV := Lib.hid hv
  have HV2 := Lib.hid hv2
  have HS2 := Lib.hid hsz2
  clear e1 f1 hW0 hb0 B BZ h hv hv2 hsz2
  go_enter Try.func10, Try.ntmps10
  go_wp2_with fail
  rw [← HW0.out]
  refine (validMap_any _ _ _ _ _ (by omega) _).mono ?_
  rw [HV.out]
  rintro e w1 ⟨rfl, hb1⟩
  have hP1 := HP.out.below hb1
  have hg := gives_q (fid := 46) (caps := #[.pointer (some ⟨w.heap.size, 0, none⟩)]) (W0 := w1) (wd := W2) (hi := H2) (dblF ks wd hi W2) (fun x y hx hy => by have := dblF_bd hkb wd hi W2 (x + W2 * y); omega) Try.call46 (by
    intro x y W hx hy hbW
    exact double1_q W w.heap.size wd hi q c N W2 x y ks hx e2 e4 e3 e5 hkb (hP1.below hbW) (by omega) (by omega))
  have KO := Lib.hid (mapOf_q w1 W2 H2 N2 _ (dblF ks wd hi W2) HV2.out (fun i _ => dblF_bd hkb wd hi W2 i) hg)
  have HB1 := Lib.hid (HB.out.1.trans (hb1.mono HB.out.1.size))
  have HZ := Lib.hid (HB.out.2.2.below hb1)
  have hs1 := HB1.out.size
  clear hb1 hP1 hg
  go_wp2_with fail
  refine (sizeOk_any _ _ _).mono ?_
  rw [HS2.out]
  rintro e w' ⟨rfl, rfl⟩
  go_wp2_with fail
  refine KO.out.mono ?_
  rintro e w2 ⟨q2, c2, rfl, hm, hq, hb2⟩
  obtain ⟨d0, d1, d2, g0, g1, g2⟩ := (HZ.out.below hb2).cells
  have hbb := HB1.out.trans (hb2.mono HB1.out.size)
  have hzl := HZ.out.lt
  have hz2 := (HZ.out.below hb2).lt
  go_wp2
  refine bodyPost_ret (v := .tuple #[.agg #[.int .i64 W2, .int .i64 H2, .slice (some ⟨q2, 0, none⟩) N2 c2], .bool true]) (by simp [results, Try.results10, go_sem, d0, d1, d2, hz2]) rfl ?_
  exact ⟨q2, c2, rfl, ((hm.set (by omega) _).set (by omega) _).set (by omega) _, by omega, ((hbb.setCell (by first | omega | (simp; done) | (simp; omega)) _).setCell (by first | omega | (simp; done) | (simp; omega)) _).setCell (by first | omega | (simp; done) | (simp; omega)) _⟩

end Go.Proofs.Ytmpbnmmpniganaa
