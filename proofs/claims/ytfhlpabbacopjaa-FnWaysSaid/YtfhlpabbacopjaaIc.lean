/- IsWhole; what a disparity of a cell costs. -/
import Derived.Test.YtfhlpabbacopjaaIb
import Derived.StillTactics
namespace Go.Proofs.Ytfhlpabbacopjaa
open Go.RowKit
set_option maxRecDepth 100000
set_option linter.unusedVariables false
set_option linter.unusedSimpArgs false

theorem indexWh_none (w : World) (b off n cap : Nat) (ms : List Nat) (vb wd hi dp : Nat) (sv : Value) (hd : dp ≤ 8) (h : SlF w (.slice (some ⟨b, off, none⟩) n cap) (ms.map wW)) (hm : ∀ m ∈ ms, m < dp) (hb : BoxN w vb #[.int .i64 wd, .int .i64 hi, .int .i64 dp, sv] 26) :
    Calls Try.prog 99 #[.slice (some ⟨b, off, none⟩) n cap, .func (.func 70) #[] #[.pointer (some ⟨vb, 0, none⟩)]] w fun e w' => e = .returned (.int .i64 (-1)) ∧ ∃ q, w' = w.drewN q := by
  obtain ⟨s1, s2, s3⟩ := h.size
  rw [List.length_map] at s1
  have hz : ∀ i, i < n → w.cell? ⟨b, off + i, none⟩ = some (.float .f32 (wW (ms.getD i 0))) ∧ ms.getD i 0 < dp := fun i hi => by
    have := (h.at i (by rw [List.length_map]; omega)).1
    rw [wW_get (by omega)] at this
    refine ⟨this, ?_⟩
    rw [List.getD_eq_getElem?_getD, List.getElem?_eq_getElem (by omega)]
    exact hm _ (List.getElem_mem _)
  have HB := Lib.hid hb
  clear h hm s1 hb
  go_enter Try.func99, Try.ntmps99
  go_wp2_with fail
  go_loopw [8] (fun v8 wr => ∃ i q : Nat, v8 = .int .i64 i ∧ i ≤ n ∧ wr = w.drewN q) (fun v8 _ => n - (intOf v8).toNat)
  case atStart => exact ⟨0, 0, rfl, Nat.zero_le _, rfl⟩
  case round =>
    obtain ⟨i, q, rfl, hi, rfl⟩ := hrel
    by_cases hlt : i < n
    · obtain ⟨k1, k2⟩ := hz i hlt
      have k3 : ∀ q, (w.drewN q).cell? ⟨b, off + i, none⟩ = some (.float .f32 (wW (ms.getD i 0))) := fun _ => k1
      have KW := Lib.hid (isWhole1_any (w.drewN q) vb wd _ dp sv _ hd k2 (HB.out.drewN q))
      generalize wW (ms.getD i 0) = x at *
      clear hz k1
      go_wp2_with fail
      refine KW.out.mono ?_
      rintro e w1 ⟨rfl, m, rfl⟩
      go_wp2
      go_roundw
      case rel => exact ⟨i + 1, _, by go_num, by omega, rfl⟩
      case measure => simp [intOf]; omega
    · have : i = n := by omega
      subst this
      clear hz
      go_wp2
      go_ret
      exact ⟨rfl, _, rfl⟩

theorem isWhole_yes (w : World) (wd hi dp N q c Nv : Nat) (sv : Option Addr) (cv : Nat) (ms : List Nat) (hv : vVol wd hi dp Nv = true) (hp : vPic wd hi N = true) (h : WM w q c N ms dp) (hNv : Nv ≤ 100000) :
    Calls Try.prog 27 #[.agg #[.int .i64 wd, .int .i64 hi, .int .i64 dp, .slice sv Nv cv], .agg #[.int .i64 wd, .int .i64 hi, .slice (some ⟨q, 0, none⟩) N c]] w fun e w' => e = .returned (.bool true) ∧ Below w.heap.size w w' := by
  obtain ⟨wd', hi', dp', g1, g2, g3, g4, g5, g6, g7, g8, g9, g10, g11⟩ := vVol_spec hv
  have hd : dp ≤ 8 := by omega
  obtain ⟨s1, s2, s3⟩ := h.sl.size
  have hN : N ≤ 9223372036854775807 := by omega
  have hb0 := below_two w (.cells #[.int .i64 wd, .int .i64 hi, .int .i64 dp, .slice sv Nv cv] 26) (.cells #[.int .i64 wd, .int .i64 hi, .slice (some ⟨q, 0, none⟩) N c] 48)
  have B1 := BoxN.first w #[.int .i64 wd, .int .i64 hi, .int .i64 dp, .slice sv Nv cv] 26 (.cells #[.int .i64 wd, .int .i64 hi, .slice (some ⟨q, 0, none⟩) N c] 48)
  have B2 := BoxN.second w #[.int .i64 wd, .int .i64 hi, .slice (some ⟨q, 0, none⟩) N c] 48 (.cells #[.int .i64 wd, .int .i64 hi, .int .i64 dp, .slice sv Nv cv] 26)
  have p1 := h.below hb0
  have HB0 := Lib.hid hb0
  clear h hb0 g1 g2 g3 g4 g5 g6 g7 g8 g9 g10 g11 s1 s2 s3
  go_enter Try.func27, Try.ntmps27
  go_wp2_with fail
  refine (validVolume_any _ _ _ _ _ _ (by omega) _).mono ?_
  rw [hv]
  rintro e w1 ⟨rfl, hb1⟩
  have C1 := B1.below hb1
  have C2 := B2.below hb1
  have p2 := p1.below hb1
  have HB1 := Lib.hid (HB0.out.trans (hb1.mono HB0.out.size))
  obtain ⟨z0, z1, z2, -, -, -⟩ := C2.three.cells
  clear B1 B2 p1 hb1 HB0
  go_wp2_with fail
  clear z0 z1 z2
  refine (validMap_any _ _ _ _ _ hN _).mono ?_
  rw [hp]
  rintro e w2 ⟨rfl, hb2⟩
  have B1 := C1.below hb2
  have B2 := C2.below hb2
  have p1 := p2.below hb2
  have HB2 := Lib.hid (HB1.out.trans (hb2.mono HB1.out.size))
  obtain ⟨z0, z1, z2, -, -, -⟩ := B2.three.cells
  obtain ⟨y0, y1, y2, y3, -, -, -, -⟩ := B1.four
  have K : Calls Try.prog 69 #[.slice (some ⟨q, 0, none⟩) N c, .func (.func 70) #[] #[.pointer (some ⟨w.heap.size, 0, none⟩)]] w2 fun e w' => e = .returned (.bool false) ∧ ∃ q, w' = w2.drewN q := by
    clear z0 z1 z2 y0 y1 y2 y3 hv hp
    go_enter Try.func69, Try.ntmps69
    go_wp2_with fail
    refine (indexWh_none w2 q 0 N c ms w.heap.size wd hi dp _ hd p1.sl p1.bd B1).mono ?_
    rintro e w1 ⟨rfl, m, rfl⟩
    go_wp2
    go_ret
    exact ⟨rfl, m, rfl⟩
  have K := Lib.hid K
  clear C1 C2 p2 hb2 HB1 B1 B2 p1 hv hp
  go_wp2_with fail
  refine K.out.mono ?_
  rintro e w3 ⟨rfl, m, rfl⟩
  go_wp2
  go_ret
  exact ⟨rfl, below_drewN HB2.out _⟩

@[go_sem] theorem run_index_nb0 (a b c d e f g h : Value) (w : World) : (Instr.index 127 (.agg #[a, b, c, d, e, f, g, h]) (.int .i64 0)).run Try.prog w = .ok (.agg #[a, b]) w := by rfl
@[go_sem] theorem run_index_nb1 (a b c d e f g h : Value) (w : World) : (Instr.index 127 (.agg #[a, b, c, d, e, f, g, h]) (.int .i64 1)).run Try.prog w = .ok (.agg #[c, d]) w := by rfl
@[go_sem] theorem run_index_nb2 (a b c d e f g h : Value) (w : World) : (Instr.index 127 (.agg #[a, b, c, d, e, f, g, h]) (.int .i64 2)).run Try.prog w = .ok (.agg #[e, f]) w := by rfl
@[go_sem] theorem run_index_nb3 (a b c d e f g h : Value) (w : World) : (Instr.index 127 (.agg #[a, b, c, d, e, f, g, h]) (.int .i64 3)).run Try.prog w = .ok (.agg #[g, h]) w := by rfl
theorem alb1_ (w : World) (o : Obj) : Below w.heap.size w (w.alloc o) := (Below.refl _ _).alloc (Nat.le_refl _) _
theorem nb_bd {ms : List Nat} {wd hi : Nat} {one more : Int} (h1 : 0 ≤ one) (h2 : one ≤ more) (x y d i : Nat) : 0 ≤ nbI ms wd hi one more x y d i ∧ nbI ms wd hi one more x y d i ≤ more := by
  have hp := fun a b => prI_bd h1 h2 a b
  have h0 : 0 ≤ more := by omega
  match i with
  | 0 => simp only [nbI]; split; exact hp _ _; omega
  | 1 => simp only [nbI]; split; exact hp _ _; omega
  | 2 => simp only [nbI]; split; exact hp _ _; omega
  | (n + 3) => simp only [nbI]; split; exact hp _ _; omega
theorem loc_bd {P : Int → Int → List Int} {ms : List Nat} {wd hi : Nat} {one more : Int} (h1 : 0 ≤ one) (h2 : one ≤ more) (h3 : more ≤ 100) {x y d : Nat} (hc : 0 ≤ cC P x y d ∧ cC P x y d ≤ 100) (i : Nat) (hi_ : i ≤ 4) : 0 ≤ cC P x y d + sN i (nbI ms wd hi one more x y d) ∧ cC P x y d + sN i (nbI ms wd hi one more x y d) ≤ 600 := by
  have := sN_bd (F := nbI ms wd hi one more x y d) (B := 100) i (fun j _ => by have := nb_bd (ms := ms) (wd := wd) (hi := hi) h1 h2 x y d j; omega)
  omega

set_option maxHeartbeats 4000000 in
theorem local_any (w : World) (vb mb wd hi dp b off Nv cv q c N x y d : Nat) (bs : List Nat) (P : Int → Int → List Int) (ms : List Nat) (one more : Int) (hx : x < wd) (hy : y < hi) (hdd : d < dp) (hw : wd ≤ 24) (hh : hi ≤ 24) (hd1 : 1 ≤ dp) (hd2 : dp ≤ 8) (hN : N = wd * hi)
    (hV : VolAt w vb wd hi dp b off Nv cv bs) (hQ : QV bs wd hi dp P) (hM : MB w mb wd hi q c N ms dp) (hc : ∀ x y d, x < wd → y < hi → d < dp → 0 ≤ cC P x y d ∧ cC P x y d ≤ 100) (h1 : 0 ≤ one) (h2 : one ≤ more) (h3 : more ≤ 100) :
    Calls Try.prog 63 #[.pointer (some ⟨vb, 0, none⟩), .agg #[.float .f32 (fq 2 one), .float .f32 (fq 2 more)], .pointer (some ⟨mb, 0, none⟩), .int .i64 x, .int .i64 y, .int .i64 d] w fun e w' => e = .returned (.float .f32 (fq 2 (locI P ms wd hi one more x y d))) ∧ Below w.heap.size w w' := by
  have hcb := hc x y d hx hy hdd
  have hbd := fun i hi_ => loc_bd (P := P) (ms := ms) (wd := wd) (hi := hi) h1 h2 h3 hcb i hi_
  have HBD := Lib.hid hbd
  have KPR := Lib.hid (fun (w : World) (b : Nat) (hb : b < 100) => price_any w one more d b (by omega) hb)
  have hpb := fun a b => prI_bd h1 h2 a b
  have HPB := Lib.hid hpb
  have HNB := Lib.hid (fun i => nb_bd (ms := ms) (wd := wd) (hi := hi) h1 h2 x y d i)
  have cq : gc bs wd dp x y d = fq 2 (cC P x y d) := ((hQ.2 x y hx hy).2 d hdd)
  have hloc : locI P ms wd hi one more x y d = cC P x y d + sN 4 (nbI ms wd hi one more x y d) := rfl
  have HLOC := Lib.hid hloc
  obtain ⟨vo, hvo⟩ : ∃ vo, vo = fq 2 one := ⟨_, rfl⟩
  obtain ⟨vm, hvm⟩ : ∃ vm, vm = fq 2 more := ⟨_, rfl⟩
  rw [← hvo, ← hvm] at KPR ⊢
  have hb0 := alb1_ w (.cells #[.float .f32 vo, .float .f32 vm] 30)
  have BP := BoxN.last w #[.float .f32 vo, .float .f32 vm] 30
  have V0 := hV.below hb0
  have M0 := hM.below hb0
  have HB0 := Lib.hid hb0
  have x24 : (x : Int) < 24 := by omega
  have y24 : (y : Int) < 24 := by omega
  have d8 : (d : Int) < (dp : Int) := by omega
  clear hV hM hbd hpb hc hvo hvm hQ hloc hb0 h1 h2
  go_enter Try.func63, Try.ntmps63
  go_wp2_with fail
  generalize hwa : w.alloc (.cells #[.float .f32 vo, .float .f32 vm] 30) = W0 at *
  clear hwa
  refine (cell_any W0 vb wd hi dp b off Nv cv bs x y x y rfl rfl hx hy hw hh hd1 hd2 V0).mono ?_
  rintro e w1 ⟨rfl, m0, rfl⟩
  have c1 := (V0.cost hx hy hdd).1
  rw [cq] at c1
  obtain ⟨s0, hs0⟩ : ∃ s0, s0 = fq 2 (cC P x y d) := ⟨_, rfl⟩
  rw [← hs0] at c1
  have HS0 := Lib.hid hs0
  have HC1 := Lib.hid c1
  generalize ic wd dp x y = icv at *
  clear cq hs0 V0
  go_wp2_with fail
  clear c1
  have HBP := Lib.hid BP
  have HM0 := Lib.hid M0
  clear BP M0
  go_loopw [13, 40] (fun v13 v40 wr => ∃ i : Nat, v40 = .int .i64 i ∧ i ≤ 4 ∧ v13 = .float .f32 (fq 2 (cC P x y d + sN i (nbI ms wd hi one more x y d))) ∧ Below W0.heap.size W0 wr) (fun _ v40 _ => 4 - (intOf v40).toNat)
  case atStart => exact ⟨0, rfl, by omega, by rw [HS0.out]; simp [sN], below_drewN (Below.refl _ _) _⟩
  case round =>
    obtain ⟨i, rfl, hi4, rfl, hbl⟩ := hrel
    have hbi := HBD.out i hi4
    obtain ⟨S, hS⟩ : ∃ S, S = cC P x y d + sN i (nbI ms wd hi one more x y d) := ⟨_, rfl⟩
    rw [← hS] at hbi ⊢
    have HSS := Lib.hid hS
    have HBL := Lib.hid hbl
    clear hS hbl
    by_cases hlt : i < 4
    · have hsuc : cC P x y d + sN (i + 1) (nbI ms wd hi one more x y d) = S + nbI ms wd hi one more x y d i := by rw [HSS.out]; show cC P x y d + (sN i _ + _) = _; omega
      have hnb := HNB.out i
      have HSUC := Lib.hid hsuc
      clear hsuc hi4
      have i4 : i = 0 ∨ i = 1 ∨ i = 2 ∨ i = 3 := by omega
      rcases i4 with rfl | rfl | rfl | rfl
      · by_cases hg : 1 ≤ x
        · have hin : inB ((x : Int) - 1) ((y : Int)) wd hi = true := inB_iff.2 (by omega)
          have hnbv : nbI ms wd hi one more x y d 0 = prI one more d (mAt ms wd (x - 1) y) := by simp only [nbI]; rw [if_pos hg]
          have sz := HBL.out.size
          have ha := alb1_ wr (.cells #[.int .i64 ((x : Int) - 1), .int .i64 ((y : Int))] 115)
          have BC := BoxN.last wr #[.int .i64 ((x : Int) - 1), .int .i64 ((y : Int))] 115
          have hb1 := HBL.out.trans (ha.mono sz)
          have BP1 := HBP.out.below hb1
          have M1 := HM0.out.below hb1
          have hmm := M1.wm.mat hN (x := (x - 1)) (y := y) (by omega) (by omega)
          go_wp2_with fail
          generalize hW1 : wr.alloc (.cells #[.int .i64 ((x : Int) - 1), .int .i64 ((y : Int))] 115) = W1 at *
          have KW := Lib.hid (fun n => whole_any (W1.drewN n) mb wd hi q c N dp ms ((x : Int) - 1) ((y : Int)) (x - 1) y (by omega) (by omega) (by omega) (by omega) hw hh hN hd2 (M1.drewN n))
          have KW1 := Lib.hid (whole_any W1 mb wd hi q c N dp ms ((x : Int) - 1) ((y : Int)) (x - 1) y (by omega) (by omega) (by omega) (by omega) hw hh hN hd2 M1)
          have KW0 := Lib.hid (whole_any W1.drew mb wd hi q c N dp ms ((x : Int) - 1) ((y : Int)) (x - 1) y (by omega) (by omega) (by omega) (by omega) hw hh hN hd2 (M1.drewN 1))
          have hpm := HPB.out d (mAt ms wd (x - 1) y)
          obtain ⟨mm, hmme⟩ : ∃ mm, mm = mAt ms wd (x - 1) y := ⟨_, rfl⟩
          rw [← hmme] at hnbv hpm hmm KW KW0 KW1
          have KP := Lib.hid (fun w => KPR.out w mm (by omega))
          have ad := fq_add (g := 2) (a := S) (b := prI one more d mm) (by omega) (by omega) (by omega)
          obtain ⟨zz, hzz⟩ : ∃ zz, zz = fq 2 (S + prI one more d mm) := ⟨_, rfl⟩
          rw [← hzz] at ad
          have HZZ := Lib.hid hzz
          have HNBV := Lib.hid hnbv
          generalize fq 2 (prI one more d mm) = pw at *
          generalize fq 2 S = sw at *
          have ar := fres_some ad
          have af := fdr_some ad
          have hd0 : ∀ W : World, W.drewN 0 = W := fun _ => rfl
          have zp0 := BP1.cell 0
          have zp1 := BP1.cell 1
          have zc0 := BC.cell 0
          have zc1 := BC.cell 1
          simp only [List.size_toArray, List.length_cons, List.length_nil, List.getElem?_toArray, List.getElem?_cons_zero, List.getElem?_cons_succ] at zp0 zp1 zc0 zc1
          have HHB := Lib.hid hb1
          have HMB := Lib.hid M1.box
          clear hmme hzz ad hnbv hpm hnb hmm hbi BP1 M1 ha BC hb1 hW1
          refine (mapHas_any W1 mb wd hi _ _ _ (by omega) (by omega) HMB.out).mono ?_
          rw [hin]
          rintro e w' ⟨rfl, rfl⟩
          clear hin
          go_wp2_with fail
          go_region_law (first | (go_simp; (with_reducible refine (KW.out _).mono ?_); rintro e w' ⟨rfl, m, rfl⟩) | (go_simp; (with_reducible refine KW0.out.mono ?_); rintro e w' ⟨rfl, m, rfl⟩) | (go_simp; (with_reducible refine KW1.out.mono ?_); rintro e w' ⟨rfl, m, rfl⟩) | (go_simp; (with_reducible refine (KP.out _).mono ?_); rintro e w' ⟨rfl, hbp⟩))
          all_goals
            go_wp2
            go_roundw
            case rel => exact ⟨1, by go_num, by omega, by rw [HSUC.out, HNBV.out, HZZ.out], by first | exact HHB.out.trans (Below.mono (by first | exact below_undrew hbp | exact hbp) HHB.out.size) | exact below_drewN (HHB.out.trans (Below.mono (by first | exact below_undrew hbp | exact hbp) HHB.out.size)) _⟩
            case measure => simp [intOf]
        · have hin : inB ((x : Int) - 1) ((y : Int)) wd hi = false := by
            cases e : inB ((x : Int) - 1) ((y : Int)) wd hi
            · rfl
            · have := inB_iff.1 e; omega
          have hnbv : nbI ms wd hi one more x y d 0 = 0 := by simp only [nbI]; rw [if_neg hg]
          have sz := HBL.out.size
          have ha := alb1_ wr (.cells #[.int .i64 ((x : Int) - 1), .int .i64 ((y : Int))] 115)
          have BC := BoxN.last wr #[.int .i64 ((x : Int) - 1), .int .i64 ((y : Int))] 115
          have hb1 := HBL.out.trans (ha.mono sz)
          have M1 := HM0.out.below hb1
          have HHB := Lib.hid hb1
          have HMB := Lib.hid M1.box
          have HNBV := Lib.hid hnbv
          generalize hsw : fq 2 S = sw at *
          have HSW := Lib.hid hsw
          clear hb1 M1 ha hnbv hnb hbi BC hsw
          go_wp2_with fail
          refine (mapHas_any _ mb wd hi _ _ _ (by omega) (by omega) HMB.out).mono ?_
          rw [hin]
          rintro e w' ⟨rfl, rfl⟩
          go_wp2
          go_roundw
          case rel => exact ⟨1, by go_num, by omega, by rw [HSUC.out, HNBV.out, Int.add_zero, HSW.out], HHB.out⟩
          case measure => simp [intOf]
      · by_cases hg : x + 1 < wd
        · have hin : inB ((x : Int) + 1) ((y : Int)) wd hi = true := inB_iff.2 (by omega)
          have hnbv : nbI ms wd hi one more x y d 1 = prI one more d (mAt ms wd (x + 1) y) := by simp only [nbI]; rw [if_pos hg]
          have sz := HBL.out.size
          have ha := alb1_ wr (.cells #[.int .i64 ((x : Int) + 1), .int .i64 ((y : Int))] 115)
          have BC := BoxN.last wr #[.int .i64 ((x : Int) + 1), .int .i64 ((y : Int))] 115
          have hb1 := HBL.out.trans (ha.mono sz)
          have BP1 := HBP.out.below hb1
          have M1 := HM0.out.below hb1
          have hmm := M1.wm.mat hN (x := (x + 1)) (y := y) (by omega) (by omega)
          go_wp2_with fail
          generalize hW1 : wr.alloc (.cells #[.int .i64 ((x : Int) + 1), .int .i64 ((y : Int))] 115) = W1 at *
          have KW := Lib.hid (fun n => whole_any (W1.drewN n) mb wd hi q c N dp ms ((x : Int) + 1) ((y : Int)) (x + 1) y (by omega) (by omega) (by omega) (by omega) hw hh hN hd2 (M1.drewN n))
          have KW1 := Lib.hid (whole_any W1 mb wd hi q c N dp ms ((x : Int) + 1) ((y : Int)) (x + 1) y (by omega) (by omega) (by omega) (by omega) hw hh hN hd2 M1)
          have KW0 := Lib.hid (whole_any W1.drew mb wd hi q c N dp ms ((x : Int) + 1) ((y : Int)) (x + 1) y (by omega) (by omega) (by omega) (by omega) hw hh hN hd2 (M1.drewN 1))
          have hpm := HPB.out d (mAt ms wd (x + 1) y)
          obtain ⟨mm, hmme⟩ : ∃ mm, mm = mAt ms wd (x + 1) y := ⟨_, rfl⟩
          rw [← hmme] at hnbv hpm hmm KW KW0 KW1
          have KP := Lib.hid (fun w => KPR.out w mm (by omega))
          have ad := fq_add (g := 2) (a := S) (b := prI one more d mm) (by omega) (by omega) (by omega)
          obtain ⟨zz, hzz⟩ : ∃ zz, zz = fq 2 (S + prI one more d mm) := ⟨_, rfl⟩
          rw [← hzz] at ad
          have HZZ := Lib.hid hzz
          have HNBV := Lib.hid hnbv
          generalize fq 2 (prI one more d mm) = pw at *
          generalize fq 2 S = sw at *
          have ar := fres_some ad
          have af := fdr_some ad
          have hd0 : ∀ W : World, W.drewN 0 = W := fun _ => rfl
          have zp0 := BP1.cell 0
          have zp1 := BP1.cell 1
          have zc0 := BC.cell 0
          have zc1 := BC.cell 1
          simp only [List.size_toArray, List.length_cons, List.length_nil, List.getElem?_toArray, List.getElem?_cons_zero, List.getElem?_cons_succ] at zp0 zp1 zc0 zc1
          have HHB := Lib.hid hb1
          have HMB := Lib.hid M1.box
          clear hmme hzz ad hnbv hpm hnb hmm hbi BP1 M1 ha BC hb1 hW1
          refine (mapHas_any W1 mb wd hi _ _ _ (by omega) (by omega) HMB.out).mono ?_
          rw [hin]
          rintro e w' ⟨rfl, rfl⟩
          clear hin
          go_wp2_with fail
          go_region_law (first | (go_simp; (with_reducible refine (KW.out _).mono ?_); rintro e w' ⟨rfl, m, rfl⟩) | (go_simp; (with_reducible refine KW0.out.mono ?_); rintro e w' ⟨rfl, m, rfl⟩) | (go_simp; (with_reducible refine KW1.out.mono ?_); rintro e w' ⟨rfl, m, rfl⟩) | (go_simp; (with_reducible refine (KP.out _).mono ?_); rintro e w' ⟨rfl, hbp⟩))
          all_goals
            go_wp2
            go_roundw
            case rel => exact ⟨2, by go_num, by omega, by rw [HSUC.out, HNBV.out, HZZ.out], by first | exact HHB.out.trans (Below.mono (by first | exact below_undrew hbp | exact hbp) HHB.out.size) | exact below_drewN (HHB.out.trans (Below.mono (by first | exact below_undrew hbp | exact hbp) HHB.out.size)) _⟩
            case measure => simp [intOf]
        · have hin : inB ((x : Int) + 1) ((y : Int)) wd hi = false := by
            cases e : inB ((x : Int) + 1) ((y : Int)) wd hi
            · rfl
            · have := inB_iff.1 e; omega
          have hnbv : nbI ms wd hi one more x y d 1 = 0 := by simp only [nbI]; rw [if_neg hg]
          have sz := HBL.out.size
          have ha := alb1_ wr (.cells #[.int .i64 ((x : Int) + 1), .int .i64 ((y : Int))] 115)
          have BC := BoxN.last wr #[.int .i64 ((x : Int) + 1), .int .i64 ((y : Int))] 115
          have hb1 := HBL.out.trans (ha.mono sz)
          have M1 := HM0.out.below hb1
          have HHB := Lib.hid hb1
          have HMB := Lib.hid M1.box
          have HNBV := Lib.hid hnbv
          generalize hsw : fq 2 S = sw at *
          have HSW := Lib.hid hsw
          clear hb1 M1 ha hnbv hnb hbi BC hsw
          go_wp2_with fail
          refine (mapHas_any _ mb wd hi _ _ _ (by omega) (by omega) HMB.out).mono ?_
          rw [hin]
          rintro e w' ⟨rfl, rfl⟩
          go_wp2
          go_roundw
          case rel => exact ⟨2, by go_num, by omega, by rw [HSUC.out, HNBV.out, Int.add_zero, HSW.out], HHB.out⟩
          case measure => simp [intOf]
      · by_cases hg : 1 ≤ y
        · have hin : inB ((x : Int)) ((y : Int) - 1) wd hi = true := inB_iff.2 (by omega)
          have hnbv : nbI ms wd hi one more x y d 2 = prI one more d (mAt ms wd x (y - 1)) := by simp only [nbI]; rw [if_pos hg]
          have sz := HBL.out.size
          have ha := alb1_ wr (.cells #[.int .i64 ((x : Int)), .int .i64 ((y : Int) - 1)] 115)
          have BC := BoxN.last wr #[.int .i64 ((x : Int)), .int .i64 ((y : Int) - 1)] 115
          have hb1 := HBL.out.trans (ha.mono sz)
          have BP1 := HBP.out.below hb1
          have M1 := HM0.out.below hb1
          have hmm := M1.wm.mat hN (x := x) (y := (y - 1)) (by omega) (by omega)
          go_wp2_with fail
          generalize hW1 : wr.alloc (.cells #[.int .i64 ((x : Int)), .int .i64 ((y : Int) - 1)] 115) = W1 at *
          have KW := Lib.hid (fun n => whole_any (W1.drewN n) mb wd hi q c N dp ms ((x : Int)) ((y : Int) - 1) x (y - 1) (by omega) (by omega) (by omega) (by omega) hw hh hN hd2 (M1.drewN n))
          have KW1 := Lib.hid (whole_any W1 mb wd hi q c N dp ms ((x : Int)) ((y : Int) - 1) x (y - 1) (by omega) (by omega) (by omega) (by omega) hw hh hN hd2 M1)
          have KW0 := Lib.hid (whole_any W1.drew mb wd hi q c N dp ms ((x : Int)) ((y : Int) - 1) x (y - 1) (by omega) (by omega) (by omega) (by omega) hw hh hN hd2 (M1.drewN 1))
          have hpm := HPB.out d (mAt ms wd x (y - 1))
          obtain ⟨mm, hmme⟩ : ∃ mm, mm = mAt ms wd x (y - 1) := ⟨_, rfl⟩
          rw [← hmme] at hnbv hpm hmm KW KW0 KW1
          have KP := Lib.hid (fun w => KPR.out w mm (by omega))
          have ad := fq_add (g := 2) (a := S) (b := prI one more d mm) (by omega) (by omega) (by omega)
          obtain ⟨zz, hzz⟩ : ∃ zz, zz = fq 2 (S + prI one more d mm) := ⟨_, rfl⟩
          rw [← hzz] at ad
          have HZZ := Lib.hid hzz
          have HNBV := Lib.hid hnbv
          generalize fq 2 (prI one more d mm) = pw at *
          generalize fq 2 S = sw at *
          have ar := fres_some ad
          have af := fdr_some ad
          have hd0 : ∀ W : World, W.drewN 0 = W := fun _ => rfl
          have zp0 := BP1.cell 0
          have zp1 := BP1.cell 1
          have zc0 := BC.cell 0
          have zc1 := BC.cell 1
          simp only [List.size_toArray, List.length_cons, List.length_nil, List.getElem?_toArray, List.getElem?_cons_zero, List.getElem?_cons_succ] at zp0 zp1 zc0 zc1
          have HHB := Lib.hid hb1
          have HMB := Lib.hid M1.box
          clear hmme hzz ad hnbv hpm hnb hmm hbi BP1 M1 ha BC hb1 hW1
          refine (mapHas_any W1 mb wd hi _ _ _ (by omega) (by omega) HMB.out).mono ?_
          rw [hin]
          rintro e w' ⟨rfl, rfl⟩
          clear hin
          go_wp2_with fail
          go_region_law (first | (go_simp; (with_reducible refine (KW.out _).mono ?_); rintro e w' ⟨rfl, m, rfl⟩) | (go_simp; (with_reducible refine KW0.out.mono ?_); rintro e w' ⟨rfl, m, rfl⟩) | (go_simp; (with_reducible refine KW1.out.mono ?_); rintro e w' ⟨rfl, m, rfl⟩) | (go_simp; (with_reducible refine (KP.out _).mono ?_); rintro e w' ⟨rfl, hbp⟩))
          all_goals
            go_wp2
            go_roundw
            case rel => exact ⟨3, by go_num, by omega, by rw [HSUC.out, HNBV.out, HZZ.out], by first | exact HHB.out.trans (Below.mono (by first | exact below_undrew hbp | exact hbp) HHB.out.size) | exact below_drewN (HHB.out.trans (Below.mono (by first | exact below_undrew hbp | exact hbp) HHB.out.size)) _⟩
            case measure => simp [intOf]
        · have hin : inB ((x : Int)) ((y : Int) - 1) wd hi = false := by
            cases e : inB ((x : Int)) ((y : Int) - 1) wd hi
            · rfl
            · have := inB_iff.1 e; omega
          have hnbv : nbI ms wd hi one more x y d 2 = 0 := by simp only [nbI]; rw [if_neg hg]
          have sz := HBL.out.size
          have ha := alb1_ wr (.cells #[.int .i64 ((x : Int)), .int .i64 ((y : Int) - 1)] 115)
          have BC := BoxN.last wr #[.int .i64 ((x : Int)), .int .i64 ((y : Int) - 1)] 115
          have hb1 := HBL.out.trans (ha.mono sz)
          have M1 := HM0.out.below hb1
          have HHB := Lib.hid hb1
          have HMB := Lib.hid M1.box
          have HNBV := Lib.hid hnbv
          generalize hsw : fq 2 S = sw at *
          have HSW := Lib.hid hsw
          clear hb1 M1 ha hnbv hnb hbi BC hsw
          go_wp2_with fail
          refine (mapHas_any _ mb wd hi _ _ _ (by omega) (by omega) HMB.out).mono ?_
          rw [hin]
          rintro e w' ⟨rfl, rfl⟩
          go_wp2
          go_roundw
          case rel => exact ⟨3, by go_num, by omega, by rw [HSUC.out, HNBV.out, Int.add_zero, HSW.out], HHB.out⟩
          case measure => simp [intOf]
      · by_cases hg : y + 1 < hi
        · have hin : inB ((x : Int)) ((y : Int) + 1) wd hi = true := inB_iff.2 (by omega)
          have hnbv : nbI ms wd hi one more x y d 3 = prI one more d (mAt ms wd x (y + 1)) := by simp only [nbI]; rw [if_pos hg]
          have sz := HBL.out.size
          have ha := alb1_ wr (.cells #[.int .i64 ((x : Int)), .int .i64 ((y : Int) + 1)] 115)
          have BC := BoxN.last wr #[.int .i64 ((x : Int)), .int .i64 ((y : Int) + 1)] 115
          have hb1 := HBL.out.trans (ha.mono sz)
          have BP1 := HBP.out.below hb1
          have M1 := HM0.out.below hb1
          have hmm := M1.wm.mat hN (x := x) (y := (y + 1)) (by omega) (by omega)
          go_wp2_with fail
          generalize hW1 : wr.alloc (.cells #[.int .i64 ((x : Int)), .int .i64 ((y : Int) + 1)] 115) = W1 at *
          have KW := Lib.hid (fun n => whole_any (W1.drewN n) mb wd hi q c N dp ms ((x : Int)) ((y : Int) + 1) x (y + 1) (by omega) (by omega) (by omega) (by omega) hw hh hN hd2 (M1.drewN n))
          have KW1 := Lib.hid (whole_any W1 mb wd hi q c N dp ms ((x : Int)) ((y : Int) + 1) x (y + 1) (by omega) (by omega) (by omega) (by omega) hw hh hN hd2 M1)
          have KW0 := Lib.hid (whole_any W1.drew mb wd hi q c N dp ms ((x : Int)) ((y : Int) + 1) x (y + 1) (by omega) (by omega) (by omega) (by omega) hw hh hN hd2 (M1.drewN 1))
          have hpm := HPB.out d (mAt ms wd x (y + 1))
          obtain ⟨mm, hmme⟩ : ∃ mm, mm = mAt ms wd x (y + 1) := ⟨_, rfl⟩
          rw [← hmme] at hnbv hpm hmm KW KW0 KW1
          have KP := Lib.hid (fun w => KPR.out w mm (by omega))
          have ad := fq_add (g := 2) (a := S) (b := prI one more d mm) (by omega) (by omega) (by omega)
          obtain ⟨zz, hzz⟩ : ∃ zz, zz = fq 2 (S + prI one more d mm) := ⟨_, rfl⟩
          rw [← hzz] at ad
          have HZZ := Lib.hid hzz
          have HNBV := Lib.hid hnbv
          generalize fq 2 (prI one more d mm) = pw at *
          generalize fq 2 S = sw at *
          have ar := fres_some ad
          have af := fdr_some ad
          have hd0 : ∀ W : World, W.drewN 0 = W := fun _ => rfl
          have zp0 := BP1.cell 0
          have zp1 := BP1.cell 1
          have zc0 := BC.cell 0
          have zc1 := BC.cell 1
          simp only [List.size_toArray, List.length_cons, List.length_nil, List.getElem?_toArray, List.getElem?_cons_zero, List.getElem?_cons_succ] at zp0 zp1 zc0 zc1
          have HHB := Lib.hid hb1
          have HMB := Lib.hid M1.box
          clear hmme hzz ad hnbv hpm hnb hmm hbi BP1 M1 ha BC hb1 hW1
          refine (mapHas_any W1 mb wd hi _ _ _ (by omega) (by omega) HMB.out).mono ?_
          rw [hin]
          rintro e w' ⟨rfl, rfl⟩
          clear hin
          go_wp2_with fail
          go_region_law (first | (go_simp; (with_reducible refine (KW.out _).mono ?_); rintro e w' ⟨rfl, m, rfl⟩) | (go_simp; (with_reducible refine KW0.out.mono ?_); rintro e w' ⟨rfl, m, rfl⟩) | (go_simp; (with_reducible refine KW1.out.mono ?_); rintro e w' ⟨rfl, m, rfl⟩) | (go_simp; (with_reducible refine (KP.out _).mono ?_); rintro e w' ⟨rfl, hbp⟩))
          all_goals
            go_wp2
            go_roundw
            case rel => exact ⟨4, by go_num, by omega, by rw [HSUC.out, HNBV.out, HZZ.out], by first | exact HHB.out.trans (Below.mono (by first | exact below_undrew hbp | exact hbp) HHB.out.size) | exact below_drewN (HHB.out.trans (Below.mono (by first | exact below_undrew hbp | exact hbp) HHB.out.size)) _⟩
            case measure => simp [intOf]
        · have hin : inB ((x : Int)) ((y : Int) + 1) wd hi = false := by
            cases e : inB ((x : Int)) ((y : Int) + 1) wd hi
            · rfl
            · have := inB_iff.1 e; omega
          have hnbv : nbI ms wd hi one more x y d 3 = 0 := by simp only [nbI]; rw [if_neg hg]
          have sz := HBL.out.size
          have ha := alb1_ wr (.cells #[.int .i64 ((x : Int)), .int .i64 ((y : Int) + 1)] 115)
          have BC := BoxN.last wr #[.int .i64 ((x : Int)), .int .i64 ((y : Int) + 1)] 115
          have hb1 := HBL.out.trans (ha.mono sz)
          have M1 := HM0.out.below hb1
          have HHB := Lib.hid hb1
          have HMB := Lib.hid M1.box
          have HNBV := Lib.hid hnbv
          generalize hsw : fq 2 S = sw at *
          have HSW := Lib.hid hsw
          clear hb1 M1 ha hnbv hnb hbi BC hsw
          go_wp2_with fail
          refine (mapHas_any _ mb wd hi _ _ _ (by omega) (by omega) HMB.out).mono ?_
          rw [hin]
          rintro e w' ⟨rfl, rfl⟩
          go_wp2
          go_roundw
          case rel => exact ⟨4, by go_num, by omega, by rw [HSUC.out, HNBV.out, Int.add_zero, HSW.out], HHB.out⟩
          case measure => simp [intOf]
    · obtain rfl : i = 4 := by omega
      generalize hsw : fq 2 S = sw at *
      have HSW := Lib.hid hsw
      clear hsw hbi hi4
      go_wp2
      go_ret
      exact ⟨by first | (rw [HLOC.out, ← HSS.out, HSW.out]; done) | (rw [HLOC.out, ← HSS.out, HSW.out]; rfl), HB0.out.trans (HBL.out.mono HB0.out.size)⟩

end Go.Proofs.Ytfhlpabbacopjaa
