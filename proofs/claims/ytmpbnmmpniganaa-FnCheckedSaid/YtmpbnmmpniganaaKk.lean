/- Maps that are checked by others. Printed by genkk.py. -/
import Derived.Test.YtmpbnmmpniganaaMt
import Derived.Test.YtmpbnmmpniganaaKe
import Derived.Test.YtmpbnmmpniganaaKj
namespace Go.Proofs.Ytmpbnmmpniganaa
open Go.RowKit
set_option maxRecDepth 100000
set_option linter.unusedVariables false
set_option linter.unusedSimpArgs false

theorem quiet_holeT {b : Nat} (h : le32 0 b = false) {w : World} (n : Nat) : Calls Try.prog 49 #[.float .f32 b] (w.drewN n) fun e w'' => e = .returned (.bool true) ∧ ∃ m, w'' = w.drewN m := by
  refine quiet_same ((isHole_any b (w.drewN n)).mono ?_)
  rintro e w' ⟨rfl, rfl⟩
  rw [h]; exact ⟨rfl, rfl⟩
theorem quiet_holeF {b : Nat} (h : le32 0 b = true) {w : World} (n : Nat) : Calls Try.prog 49 #[.float .f32 b] (w.drewN n) fun e w'' => e = .returned (.bool false) ∧ ∃ m, w'' = w.drewN m := by
  refine quiet_same ((isHole_any b (w.drewN n)).mono ?_)
  rintro e w' ⟨rfl, rfl⟩
  rw [h]; exact ⟨rfl, rfl⟩
/-- What is checked: the value, or a hole. -/
def chkB (ks js : List Int) (wd : Nat) (mo : Int) (i : Nat) : Bool := decide (0 ≤ ks.getD i 0) && (decide (plq (ks.getD i 0) ≤ ((i % wd : Nat) : Int)) && (decide (0 ≤ js.getD (i - (plq (ks.getD i 0)).toNat) 0) && decide (((ks.getD i 0 - js.getD (i - (plq (ks.getD i 0)).toNat) 0).natAbs : Int) ≤ mo)))
def chkF (ks js : List Int) (wd : Nat) (mo : Int) (i : Nat) : Int := if chkB ks js wd mo i = true then ks.getD i 0 else -4
theorem chkF_bd {ks js : List Int} {wd : Nat} {mo : Int} {i : Nat} (h1 : (ks.getD i 0).natAbs ≤ 1000) : (chkF ks js wd mo i).natAbs ≤ 1000 := by unfold chkF; split <;> omega
theorem plq_pos {k : Int} (h0 : 0 ≤ k) (h : k < 128) : 0 ≤ plq k ∧ plq k ≤ 40 := by unfold plq; split <;> (try split) <;> (try split) <;> (try split) <;> omega

set_option maxHeartbeats 1000000 in
theorem checkMaps_q (w : World) (wd hi N q c q2 c2 : Nat) (mst : Nat) (ks js : List Int) (hv : vPic wd hi N = true) (h : MQ w q c N ks) (h2 : MQ w q2 c2 N js) (mo : Int) (hmo : mo.natAbs ≤ 1000) (hms : Hid (mst = fq 2 mo)) (hlt : ∀ k ∈ ks, k < 128 ∧ -1000 ≤ k) :
    Calls Try.prog 33 #[.agg #[.int .i64 wd, .int .i64 hi, .slice (some ⟨q, 0, none⟩) N c], .agg #[.int .i64 wd, .int .i64 hi, .slice (some ⟨q2, 0, none⟩) N c2], .float .f32 mst] w (MakesMQ w wd hi N (tabI N (chkF ks js wd mo))) := by
  obtain ⟨e1, e2, e3, e4, e5, e6, e7⟩ := vPic_mul hv
  obtain ⟨W0, hW0⟩ : ∃ W0, W0 = ((((w.alloc (.cells #[.int .i64 wd, .int .i64 hi, .slice (some ⟨q, 0, none⟩) N c] 27)).alloc (.cells #[.int .i64 wd, .int .i64 hi, .slice (some ⟨q2, 0, none⟩) N c2] 27)).alloc (.cells #[.float .f32 mst] 33)).alloc (.cells #[.int .i64 0, .int .i64 0, .slice none 0 0] 27)) := ⟨_, rfl⟩
  have hb0 : Below w.heap.size w W0 := by rw [hW0]; exact (((alb1 w _).alloc (by simp) _).alloc (by simp; omega) _).alloc (by simp; omega) _
  have hX1 : Box3 W0 w.heap.size (.int .i64 wd) (.int .i64 hi) (.slice (some ⟨q, 0, none⟩) N c) 27 := by rw [hW0]; exact (((box_last w _ _ _ _).below (alb1 _ _)).below (alb1 _ _)).below (alb1 _ _)
  have hX2 : Box3 W0 (w.heap.size + 1) (.int .i64 wd) (.int .i64 hi) (.slice (some ⟨q2, 0, none⟩) N c2) 27 := by rw [hW0]; exact by have := ((box_last (w.alloc (.cells #[.int .i64 wd, .int .i64 hi, .slice (some ⟨q, 0, none⟩) N c] 27)) (.int .i64 wd) (.int .i64 hi) (.slice (some ⟨q2, 0, none⟩) N c2) 27).below (alb1 _ (.cells #[.float .f32 mst] 33))).below (alb1 _ (.cells #[.int .i64 0, .int .i64 0, .slice none 0 0] 27)); simpa using this
  have hX3 : ∀ W, Below W0.heap.size W0 W → W.cell? ⟨w.heap.size + 2, 0, none⟩ = some (.float .f32 mst) := fun W hW => by rw [hW.cell (p := ⟨w.heap.size + 2, 0, none⟩) (by rw [hW0]; simp)]; rw [hW0]; simp [go_sem]
  have HX3 := Lib.hid hX3
  clear hX3
  have hXZ : Box3 W0 (w.heap.size + 3) (.int .i64 0) (.int .i64 0) (.slice none 0 0) 27 := by rw [hW0]; have := box_last (((w.alloc (.cells #[.int .i64 wd, .int .i64 hi, .slice (some ⟨q, 0, none⟩) N c] 27)).alloc (.cells #[.int .i64 wd, .int .i64 hi, .slice (some ⟨q2, 0, none⟩) N c2] 27)).alloc (.cells #[.float .f32 mst] 33)) (.int .i64 0) (.int .i64 0) (.slice none 0 0) 27; simpa using this
  have hsz : W0.heap.size = w.heap.size + 4 := by rw [hW0]; simp
  have KO := Lib.hid (mapsOk_q W0 wd hi N q c q2 c2 hv)
  have HW0 := Lib.hid hW0
  have HM1 := Lib.hid (h.below hb0)
  have HM2 := Lib.hid (h2.below hb0)
  have HE1 := Lib.hid e1
  clear h h2 e1
  go_enter Try.func33, Try.ntmps33
  go_wp2_with fail
  rw [← HW0.out]
  refine KO.out.mono ?_
  rintro e w1 ⟨rfl, hb1⟩
  clear hW0
  have hbb1 := hb0.trans (hb1.mono hb0.size)
  have X1 := hX1.below hb1
  have X2 := hX2.below hb1
  have XZ := hXZ.below hb1
  obtain ⟨c0, c1, c2', -, -, -⟩ := X1.cells
  have hg := gives_q (fid := 88) (caps := #[.pointer (some ⟨w.heap.size, 0, none⟩), .pointer (some ⟨w.heap.size + 1, 0, none⟩), .pointer (some ⟨w.heap.size + 2, 0, none⟩)]) (W0 := w1) (wd := wd) (hi := hi) (chkF ks js wd mo) (fun x y hx hy => by have h := HM1.out; have h2 := HM2.out; have := chkF_bd (js := js) (wd := wd) (mo := mo) (h.kb (x + wd * y)); omega) Try.call88 (by
    intro x y W hx hy hbW
    have hPW := (HM1.out.below hb1).pic hbW (X1.below hbW) HE1.out
    have hPV := (HM2.out.below hb1).pic hbW (X2.below hbW) HE1.out
    have HX3W := HX3.out W (hb1.trans (hbW.mono hb1.size))
    have hxy : x + wd * y < N := by rw [HE1.out]; exact xy_lt hx hy
    have hka := HM1.out.kb (x + wd * y)
    have hkb := HM2.out.kb (x + wd * y)
    have KM := Lib.hid (fun n => mat_q (W.drewN n) w.heap.size wd hi _ ks x y x y rfl rfl hx hy (by omega) (by omega) (hPW.drew2 n))
    have KV := Lib.hid (fun n X Y u v hX hY hu hv => mat_q (W.drewN n) (w.heap.size + 1) wd hi _ js u v X Y hX hY hu hv (by omega) (by omega) (hPV.drew2 n))
    clear HW0 KO X1 X2 XZ c0 c1 c2' hX1 hX2 hXZ hPW hPV hb1 hbb1 hb0
    have hkk : ks.getD (x + wd * y) 0 < 128 ∧ -1000 ≤ ks.getD (x + wd * y) 0 := by
      rw [List.getD_eq_getElem?_getD]
      cases e : ks[x + wd * y]? with
      | none => decide
      | some z => exact hlt z (List.mem_of_getElem? e)
    have eB : chkB ks js wd mo (x + wd * y) = (decide (0 ≤ ks.getD (x + wd * y) 0) && (decide (plq (ks.getD (x + wd * y) 0) ≤ (x : Int)) && (decide (0 ≤ js.getD (x + wd * y - (plq (ks.getD (x + wd * y) 0)).toNat) 0) && decide (((ks.getD (x + wd * y) 0 - js.getD (x + wd * y - (plq (ks.getD (x + wd * y) 0)).toNat) 0).natAbs : Int) ≤ mo)))) := by unfold chkB; rw [xy_mod hx]
    have eF : chkF ks js wd mo (x + wd * y) = if chkB ks js wd mo (x + wd * y) = true then ks.getD (x + wd * y) 0 else -4 := rfl
    rw [eF, eB]
    have KA := Lib.hid (KM.out 0)
    have hjb := HM2.out.kb
    have KVA := Lib.hid KV.out
    clear eF eB
    generalize hks : ks.getD (x + wd * y) 0 = k at *
    have l1 := le0_fq (k := k) (by omega)
    have KP := Lib.hid (fun w => place_q k w hkk.2 hkk.1)
    have cm : fq 2 (-4) = 3212836864 := by decide +kernel
    by_cases g1 : 0 ≤ k
    · obtain ⟨p0, p1⟩ := plq_pos g1 hkk.1
      obtain ⟨P, hP⟩ := Int.eq_ofNat_of_zero_le p0
      rw [hP] at KP ⊢
      rw [Int.toNat_natCast]
      by_cases g2 : P ≤ x
      · have hpx : x + wd * y - P = (x - P) + wd * y := by omega
        rw [hpx]
        have kj := hjb ((x - P) + wd * y)
        have KJ := Lib.hid (fun n => KVA.out n ((x : Int) - (P : Int)) y (x - P) y (by omega) rfl (by omega) hy)
        have KN := Lib.hid (fun w => nearTo_q k (js.getD ((x - P) + wd * y) 0) mo (by omega) (by omega) hmo w)
        generalize js.getD ((x - P) + wd * y) 0 = j at *
        have l2 := le0_fq (k := j) (by omega)
        rw [← hms.out] at KN
        obtain ⟨vj, hvj⟩ : ∃ v, fq 2 j = v := ⟨_, rfl⟩
        obtain ⟨vk, hvk⟩ : ∃ v, fq 2 k = v := ⟨_, rfl⟩
        obtain ⟨r, hr⟩ : ∃ r, r = fq 2 (if (decide (0 ≤ k) && (decide ((P : Int) ≤ (x : Int)) && (decide (0 ≤ j) && decide (((k - j).natAbs : Int) ≤ mo)))) = true then k else -4) := ⟨_, rfl⟩
        rw [← hr]
        rw [decide_eq_true g1, decide_eq_true (show (P : Int) ≤ (x : Int) by omega)] at hr
        rw [hvk] at KA KP KN l1
        rw [hvj] at KN KJ l2
        rw [decide_eq_true g1] at l1
        have HL1 := Lib.hid l1
        have wx : IntKind.i64.wrap ((x : Int) - (P : Int)) = (x : Int) - (P : Int) := IntWalk.i64_in _ (by omega)
        have dpx : decide (x < P) = false := decide_eq_false (by omega)
        have WX := Lib.hid wx
        clear l1 wx
        by_cases g3 : 0 ≤ j
        · rw [decide_eq_true g3] at hr l2
          have HL2 := Lib.hid l2
          clear l2
          by_cases g4 : ((k - j).natAbs : Int) ≤ mo
          · rw [decide_eq_true g4] at hr KN
            have hr2 : r = vk := by rw [hr, ← hvk]; rfl
            have HR := Lib.hid hr2
            clear hr2 hr g4
            show Calls _ _ #[.int .i64 x, .int .i64 y, .pointer (some ⟨w.heap.size, 0, none⟩), .pointer (some ⟨w.heap.size + 1, 0, none⟩), .pointer (some ⟨w.heap.size + 2, 0, none⟩)] _ _
            go_enter Try.func88, Try.ntmps88
            go_wp2_with fail
            refine KA.out.mono ?_
            rintro e wA ⟨rfl, n, hwA⟩
            go_wp2_with fail
            refine (KP.out _).mono ?_
            rintro e WQ ⟨rfl, m, hwB⟩
            have hWQ : WQ = (W.drewN n).drewN m := by first | exact hwB | (rw [hwB, hwA]; rfl) | (rw [hwB, hwA])
            have hdd : ∀ q, WQ.drewN q = W.drewN (n + m + q) := fun q => by rw [hWQ]; simp [World.drewN, Nat.add_assoc]
            have HEND : Hid (∀ q, ∃ k, WQ.drewN q = W.drewN k) := fun q => ⟨_, hdd q⟩
            have HDD := Lib.hid hdd
            have c3 : WQ.cell? ⟨w.heap.size + 2, 0, none⟩ = some (.float .f32 mst) := by rw [hWQ]; exact HX3W
            clear hwA hwB hWQ hdd
            have KJQ := Lib.hid (fun q => (show Calls Try.prog 47 #[.pointer (some ⟨w.heap.size + 1, 0, none⟩), .int .i64 ((x : Int) - (P : Int)), .int .i64 y] (WQ.drewN q) (fun e w' => e = .returned (.float .f32 vj) ∧ ∃ m, w' = WQ.drewN m) from by
              rw [HDD.out q]
              refine (KJ.out _).mono ?_
              rintro e w' ⟨rfl, m', rfl⟩
              exact ⟨rfl, q + m', by rw [HDD.out]; simp [World.drewN, Nat.add_assoc]⟩))
            have KNQ := Lib.hid (fun q => quiet_same ((KN.out (WQ.drewN q)).mono (R' := fun e w' => e = .returned (.bool true) ∧ WQ.drewN q = w') (by rintro e w' ⟨rfl, rfl⟩; exact ⟨rfl, rfl⟩)))
            have wx := WX.out
            go_wp2_with fail
            go_quiet ((first | (with_reducible exact quiet_holeF HL1.out _) | (with_reducible exact quiet_holeF HL2.out _) | (with_reducible exact KJQ.out _) | (with_reducible exact KNQ.out _) ))
            go_wp2_with fail
            go_ret
            exact ⟨by rw [HR.out]; rfl, HEND.out _⟩
          · rw [decide_eq_false g4] at hr KN
            have hr2 : r = 3212836864 := by rw [hr, ← cm]; rfl
            have HR := Lib.hid hr2
            clear hr2 hr g4
            show Calls _ _ #[.int .i64 x, .int .i64 y, .pointer (some ⟨w.heap.size, 0, none⟩), .pointer (some ⟨w.heap.size + 1, 0, none⟩), .pointer (some ⟨w.heap.size + 2, 0, none⟩)] _ _
            go_enter Try.func88, Try.ntmps88
            go_wp2_with fail
            refine KA.out.mono ?_
            rintro e wA ⟨rfl, n, hwA⟩
            go_wp2_with fail
            refine (KP.out _).mono ?_
            rintro e WQ ⟨rfl, m, hwB⟩
            have hWQ : WQ = (W.drewN n).drewN m := by first | exact hwB | (rw [hwB, hwA]; rfl) | (rw [hwB, hwA])
            have hdd : ∀ q, WQ.drewN q = W.drewN (n + m + q) := fun q => by rw [hWQ]; simp [World.drewN, Nat.add_assoc]
            have HEND : Hid (∀ q, ∃ k, WQ.drewN q = W.drewN k) := fun q => ⟨_, hdd q⟩
            have HDD := Lib.hid hdd
            have c3 : WQ.cell? ⟨w.heap.size + 2, 0, none⟩ = some (.float .f32 mst) := by rw [hWQ]; exact HX3W
            clear hwA hwB hWQ hdd
            have KJQ := Lib.hid (fun q => (show Calls Try.prog 47 #[.pointer (some ⟨w.heap.size + 1, 0, none⟩), .int .i64 ((x : Int) - (P : Int)), .int .i64 y] (WQ.drewN q) (fun e w' => e = .returned (.float .f32 vj) ∧ ∃ m, w' = WQ.drewN m) from by
              rw [HDD.out q]
              refine (KJ.out _).mono ?_
              rintro e w' ⟨rfl, m', rfl⟩
              exact ⟨rfl, q + m', by rw [HDD.out]; simp [World.drewN, Nat.add_assoc]⟩))
            have KNQ := Lib.hid (fun q => quiet_same ((KN.out (WQ.drewN q)).mono (R' := fun e w' => e = .returned (.bool false) ∧ WQ.drewN q = w') (by rintro e w' ⟨rfl, rfl⟩; exact ⟨rfl, rfl⟩)))
            have wx := WX.out
            go_wp2_with fail
            go_quiet ((first | (with_reducible exact quiet_holeF HL1.out _) | (with_reducible exact quiet_holeF HL2.out _) | (with_reducible exact KJQ.out _) | (with_reducible exact KNQ.out _) ))
            go_wp2_with fail
            go_ret
            exact ⟨by rw [HR.out]; rfl, HEND.out _⟩
        · rw [decide_eq_false g3] at hr l2
          have HL2 := Lib.hid l2
          have hr2 : r = 3212836864 := by rw [hr, ← cm]; rfl
          have HR := Lib.hid hr2
          clear hr2 hr g3 l2
          show Calls _ _ #[.int .i64 x, .int .i64 y, .pointer (some ⟨w.heap.size, 0, none⟩), .pointer (some ⟨w.heap.size + 1, 0, none⟩), .pointer (some ⟨w.heap.size + 2, 0, none⟩)] _ _
          go_enter Try.func88, Try.ntmps88
          go_wp2_with fail
          refine KA.out.mono ?_
          rintro e wA ⟨rfl, n, hwA⟩
          go_wp2_with fail
          refine (KP.out _).mono ?_
          rintro e WQ ⟨rfl, m, hwB⟩
          have hWQ : WQ = (W.drewN n).drewN m := by first | exact hwB | (rw [hwB, hwA]; rfl) | (rw [hwB, hwA])
          have hdd : ∀ q, WQ.drewN q = W.drewN (n + m + q) := fun q => by rw [hWQ]; simp [World.drewN, Nat.add_assoc]
          have HEND : Hid (∀ q, ∃ k, WQ.drewN q = W.drewN k) := fun q => ⟨_, hdd q⟩
          have HDD := Lib.hid hdd
          have c3 : WQ.cell? ⟨w.heap.size + 2, 0, none⟩ = some (.float .f32 mst) := by rw [hWQ]; exact HX3W
          clear hwA hwB hWQ hdd
          have KJQ := Lib.hid (fun q => (show Calls Try.prog 47 #[.pointer (some ⟨w.heap.size + 1, 0, none⟩), .int .i64 ((x : Int) - (P : Int)), .int .i64 y] (WQ.drewN q) (fun e w' => e = .returned (.float .f32 vj) ∧ ∃ m, w' = WQ.drewN m) from by
            rw [HDD.out q]
            refine (KJ.out _).mono ?_
            rintro e w' ⟨rfl, m', rfl⟩
            exact ⟨rfl, q + m', by rw [HDD.out]; simp [World.drewN, Nat.add_assoc]⟩))
          have wx := WX.out
          go_wp2_with fail
          go_quiet ((first | (with_reducible exact quiet_holeF HL1.out _) | (with_reducible exact quiet_holeT HL2.out _) | (with_reducible exact KJQ.out _) ))
          go_wp2_with fail
          go_ret
          exact ⟨by rw [HR.out]; rfl, HEND.out _⟩
      · obtain ⟨vk, hvk⟩ : ∃ v, fq 2 k = v := ⟨_, rfl⟩
        rw [decide_eq_true g1, decide_eq_false (show ¬ (P : Int) ≤ (x : Int) by omega)]
        show Calls _ _ _ _ fun e w' => e = .returned (.float .f32 (fq 2 (-4))) ∧ _
        rw [cm]
        rw [hvk] at KA KP l1
        rw [decide_eq_true g1] at l1
        have HL1 := Lib.hid l1
        have dpx : decide (x < P) = true := decide_eq_true (by omega)
        have WX : Hid True := trivial
        clear l1
        show Calls _ _ #[.int .i64 x, .int .i64 y, .pointer (some ⟨w.heap.size, 0, none⟩), .pointer (some ⟨w.heap.size + 1, 0, none⟩), .pointer (some ⟨w.heap.size + 2, 0, none⟩)] _ _
        go_enter Try.func88, Try.ntmps88
        go_wp2_with fail
        refine KA.out.mono ?_
        rintro e wA ⟨rfl, n, hwA⟩
        go_wp2_with fail
        refine (KP.out _).mono ?_
        rintro e WQ ⟨rfl, m, hwB⟩
        have hWQ : WQ = (W.drewN n).drewN m := by first | exact hwB | (rw [hwB, hwA]; rfl) | (rw [hwB, hwA])
        have hdd : ∀ q, WQ.drewN q = W.drewN (n + m + q) := fun q => by rw [hWQ]; simp [World.drewN, Nat.add_assoc]
        have HEND : Hid (∀ q, ∃ k, WQ.drewN q = W.drewN k) := fun q => ⟨_, hdd q⟩
        have HDD := Lib.hid hdd
        have c3 : WQ.cell? ⟨w.heap.size + 2, 0, none⟩ = some (.float .f32 mst) := by rw [hWQ]; exact HX3W
        clear hwA hwB hWQ hdd

        have wx := WX.out
        go_wp2_with fail
        go_quiet ((first | (with_reducible exact quiet_holeF HL1.out _) ))
        go_wp2_with fail
        go_ret
        exact ⟨rfl, HEND.out _⟩
    · obtain ⟨vk, hvk⟩ : ∃ v, fq 2 k = v := ⟨_, rfl⟩
      rw [decide_eq_false g1]
      show Calls _ _ _ _ fun e w' => e = .returned (.float .f32 (fq 2 (-4))) ∧ _
      rw [cm]
      rw [hvk] at KA KP l1
      rw [decide_eq_false g1] at l1
      have HL1 := Lib.hid l1
      have WX : Hid True := trivial
      clear l1
      show Calls _ _ #[.int .i64 x, .int .i64 y, .pointer (some ⟨w.heap.size, 0, none⟩), .pointer (some ⟨w.heap.size + 1, 0, none⟩), .pointer (some ⟨w.heap.size + 2, 0, none⟩)] _ _
      go_enter Try.func88, Try.ntmps88
      go_wp2_with fail
      refine KA.out.mono ?_
      rintro e wA ⟨rfl, n, hwA⟩
      go_wp2_with fail
      refine (KP.out _).mono ?_
      rintro e WQ ⟨rfl, m, hwB⟩
      have hWQ : WQ = (W.drewN n).drewN m := by first | exact hwB | (rw [hwB, hwA]; rfl) | (rw [hwB, hwA])
      have hdd : ∀ q, WQ.drewN q = W.drewN (n + m + q) := fun q => by rw [hWQ]; simp [World.drewN, Nat.add_assoc]
      have HEND : Hid (∀ q, ∃ k, WQ.drewN q = W.drewN k) := fun q => ⟨_, hdd q⟩
      have HDD := Lib.hid hdd
      have c3 : WQ.cell? ⟨w.heap.size + 2, 0, none⟩ = some (.float .f32 mst) := by rw [hWQ]; exact HX3W
      clear hwA hwB hWQ hdd

      have wx := WX.out
      go_wp2_with fail
      go_quiet ((first | (with_reducible exact quiet_holeT HL1.out _) ))
      go_wp2_with fail
      go_ret
      exact ⟨rfl, HEND.out _⟩)
  have HG := Lib.hid hg
  have hbd : ∀ i, i < N → ((chkF ks js wd mo) i).natAbs ≤ 1000 := fun i hi => by have h := HM1.out; have h2 := HM2.out; exact chkF_bd (h.kb i)
  clear hg X1 X2 hX1 hX2 hXZ KO
  go_wp2_with fail
  refine (remap_q _ wd hi N _ c _ _ hv hbd HG.out).mono ?_
  rintro e w2 ⟨q3, c3, rfl, hm, hq, hb2⟩
  have hbb := hbb1.trans (hb2.mono hbb1.size)
  obtain ⟨d0, d1, d2, g0, g1, g2⟩ := (XZ.below hb2).cells
  have hz2 : w.heap.size + 3 < w2.heap.size := by have := hb2.size; have := hb1.size; omega
  have hq1 : w.heap.size + 4 ≤ q3 := by have := hb1.size; omega
  go_wp2
  refine bodyPost_ret (v := .tuple #[.agg #[.int .i64 wd, .int .i64 hi, .slice (some ⟨q3, 0, none⟩) N c3], .bool true]) (by simp [results, Try.results33, go_sem, d0, d1, d2, hz2]) rfl ?_
  exact ⟨q3, c3, rfl, ((hm.set (by simp; omega) _).set (by simp; omega) _).set (by simp; omega) _, by omega, ((hbb.setCell (by first | omega | (simp; done) | (simp; omega)) _).setCell (by first | omega | (simp; done) | (simp; omega)) _).setCell (by first | omega | (simp; done) | (simp; omega)) _⟩

end Go.Proofs.Ytmpbnmmpniganaa
