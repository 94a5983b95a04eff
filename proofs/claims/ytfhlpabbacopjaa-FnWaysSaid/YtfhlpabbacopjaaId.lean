/- Costs of a disparity, of a map. -/
import Derived.Test.YtfhlpabbacopjaaIc
import Derived.Deep.RegionHeld3
namespace Go.Proofs.Ytfhlpabbacopjaa
open Go.RowKit
set_option maxRecDepth 100000
set_option linter.unusedVariables false
set_option linter.unusedSimpArgs false

/-- A volume of costs in quarters, prices, and a whole map. -/
structure Cst (P : Int → Int → List Int) (bs : List Nat) (wd hi dp N Nv : Nat) (one more : Int) : Prop where
  vv : vVol wd hi dp Nv = true
  vp : vPic wd hi N = true
  qv : QV bs wd hi dp P
  hc : ∀ x y d, x < wd → y < hi → d < dp → 0 ≤ cC P x y d ∧ cC P x y d ≤ 100
  o0 : 0 ≤ one
  o1 : one ≤ more
  o2 : more ≤ 100
theorem Cst.dims {P : Int → Int → List Int} {bs : List Nat} {wd hi dp N Nv : Nat} {one more : Int} (h : Cst P bs wd hi dp N Nv one more) : 1 ≤ wd ∧ wd ≤ 24 ∧ 1 ≤ hi ∧ hi ≤ 24 ∧ 1 ≤ dp ∧ dp ≤ 8 ∧ N = wd * hi ∧ N ≤ 256 ∧ Nv ≤ 100000 ∧ 1 ≤ N := by
  obtain ⟨wd', hi', dp', g1, g2, g3, g4, g5, g6, g7, g8, g9, g10, g11⟩ := vVol_spec h.vv
  obtain ⟨x1, x2, e1, e2, e3, b1, b2, b3, b4, b5⟩ := vPic_spec h.vp
  have hN : N = wd * hi := by rw [e3]; congr 1 <;> omega
  have hNv : Nv ≤ 24 * 24 * 8 := by rw [g4]; exact Nat.mul_le_mul (Nat.mul_le_mul (by omega) (by omega)) (by omega)
  have hN1 : 1 ≤ N := by rw [e3]; exact Nat.mul_pos b1 b3
  exact ⟨by omega, by omega, by omega, by omega, by omega, by omega, hN, by omega, by omega, hN1⟩

set_option maxHeartbeats 2000000 in
theorem localCost_ok (w : World) (wd hi dp N Nv qv cv q c x y d : Nat) (bs : List Nat) (P : Int → Int → List Int) (ms : List Nat) (one more : Int) (hC : Cst P bs wd hi dp N Nv one more) (hx : x < wd) (hy : y < hi) (hd : d < dp)
    (hv : SlF w (.slice (some ⟨qv, 0, none⟩) Nv cv) bs) (hlv : bs.length = wd * hi * dp) (hm : WM w q c N ms dp) :
    Calls Try.prog 29 #[.agg #[.int .i64 wd, .int .i64 hi, .int .i64 dp, .slice (some ⟨qv, 0, none⟩) Nv cv], .agg #[.float .f32 (fq 2 one), .float .f32 (fq 2 more)], .agg #[.int .i64 wd, .int .i64 hi, .slice (some ⟨q, 0, none⟩) N c], .int .i64 x, .int .i64 y, .int .i64 d] w fun e w' => e = .returned (.tuple #[.float .f32 (fq 2 (locI P ms wd hi one more x y d)), .bool true]) ∧ Below w.heap.size w w' := by
  obtain ⟨d1, d2, d3, d4, d5, d6, d7, d8, d9, d10⟩ := hC.dims
  have HC := Lib.hid hC
  have hin : (decide ((0 : Int) ≤ d) && decide ((d : Int) ≤ (dp : Int) - 1)) = true := by simp; omega
  have hI1 : inB x y wd hi = true := inB_iff.2 (by omega)
  have KVP := Lib.hid (fun w => validPrices_yes w one more hC.o0 hC.o1 (by have := hC.o2; omega))
  have HQ1 := Lib.hid d7
  obtain ⟨vo, hvo⟩ : ∃ vo, vo = fq 2 one := ⟨_, rfl⟩
  obtain ⟨vm, hvm⟩ : ∃ vm, vm = fq 2 more := ⟨_, rfl⟩
  rw [← hvo, ← hvm] at KVP ⊢
  have HVO := Lib.hid hvo
  have HVM := Lib.hid hvm
  clear hvo hvm hC d7
  have hb0 := (below_two w (.cells #[.int .i64 wd, .int .i64 hi, .int .i64 dp, .slice (some ⟨qv, 0, none⟩) Nv cv] 26) (.cells #[.float .f32 vo, .float .f32 vm] 30)).alloc (by simp; omega) (.cells #[.int .i64 wd, .int .i64 hi, .slice (some ⟨q, 0, none⟩) N c] 48)
  have BV := (BoxN.first w #[.int .i64 wd, .int .i64 hi, .int .i64 dp, .slice (some ⟨qv, 0, none⟩) Nv cv] 26 (.cells #[.float .f32 vo, .float .f32 vm] 30)).below (alb1_ _ (.cells #[.int .i64 wd, .int .i64 hi, .slice (some ⟨q, 0, none⟩) N c] 48))
  have BP := (BoxN.second w #[.float .f32 vo, .float .f32 vm] 30 (.cells #[.int .i64 wd, .int .i64 hi, .int .i64 dp, .slice (some ⟨qv, 0, none⟩) Nv cv] 26)).below (alb1_ _ (.cells #[.int .i64 wd, .int .i64 hi, .slice (some ⟨q, 0, none⟩) N c] 48))
  have BM := BoxN.second (w.alloc (.cells #[.int .i64 wd, .int .i64 hi, .int .i64 dp, .slice (some ⟨qv, 0, none⟩) Nv cv] 26)) #[.int .i64 wd, .int .i64 hi, .slice (some ⟨q, 0, none⟩) N c] 48 (.cells #[.float .f32 vo, .float .f32 vm] 30)
  rw [show (w.alloc (.cells #[.int .i64 wd, .int .i64 hi, .int .i64 dp, .slice (some ⟨qv, 0, none⟩) Nv cv] 26)).heap.size + 1 = w.heap.size + 2 by simp] at BM
  have hv1 := hv.below hb0
  have hm1 := hm.below hb0
  have HB0 := Lib.hid hb0
  clear hv hm hb0
  go_enter Try.func29, Try.ntmps29
  go_wp2_with fail
  refine (isWhole_yes _ wd hi dp N q c Nv _ cv ms HC.out.vv HC.out.vp hm1 d9).mono ?_
  rintro e w1 ⟨rfl, hb1⟩
  replace BV := BV.below hb1
  replace BP := BP.below hb1
  replace BM := BM.below hb1
  replace hv1 := hv1.below hb1
  replace hm1 := hm1.below hb1
  have HB1 := Lib.hid (HB0.out.trans (hb1.mono HB0.out.size))
  clear hb1 HB0
  have zp0 := BP.cell 0
  have zp1 := BP.cell 1
  simp only [List.size_toArray, List.length_cons, List.length_nil, List.getElem?_toArray, List.getElem?_cons_zero, List.getElem?_cons_succ] at zp0 zp1
  go_wp2_with fail
  clear zp0 zp1
  refine (KVP.out _).mono ?_
  rintro e w2 ⟨rfl, hb1⟩
  replace BV := BV.below hb1
  replace BP := BP.below hb1
  replace BM := BM.below hb1
  replace hv1 := hv1.below hb1
  replace hm1 := hm1.below hb1
  have HB2 := Lib.hid (HB1.out.trans (hb1.mono HB1.out.size))
  clear hb1 HB1
  go_wp2_with fail
  refine (mapHas_any _ _ wd hi _ _ _ (by omega) (by omega) BM.three).mono ?_
  rw [hI1]
  rintro e w' ⟨rfl, rfl⟩
  clear hI1
  obtain ⟨y0, y1, y2, y3, -, -, -, -⟩ := BV.four
  go_wp2_with fail
  refine (in_any _ _ _ _).mono ?_
  rw [hin]
  rintro e w' ⟨rfl, rfl⟩
  clear hin y0 y1 y2 y3
  have zp0 := BP.cell 0
  have zp1 := BP.cell 1
  simp only [List.size_toArray, List.length_cons, List.length_nil, List.getElem?_toArray, List.getElem?_cons_zero, List.getElem?_cons_succ] at zp0 zp1
  have KL := local_any w2 w.heap.size (w.heap.size + 2) wd hi dp qv 0 Nv cv q c N x y d bs P ms one more hx hy hd d2 d4 d5 d6 HQ1.out ⟨BV, hv1, hlv⟩ HC.out.qv ⟨BM.three, hm1⟩ HC.out.hc HC.out.o0 HC.out.o1 HC.out.o2
  rw [← HVO.out, ← HVM.out] at KL
  have KL := Lib.hid KL
  clear BV BM BP hv1 hm1
  go_wp2_with fail
  refine KL.out.mono ?_
  rintro e w3 ⟨rfl, hb1⟩
  go_wp2
  go_ret2
  exact ⟨rfl, HB2.out.trans (hb1.mono HB2.out.size)⟩

theorem cell_bd {P : Int → Int → List Int} {ms : List Nat} {wd hi dp : Nat} {one more : Int} (hc : ∀ x y d, x < wd → y < hi → d < dp → 0 ≤ cC P x y d ∧ cC P x y d ≤ 100) (h1 : 0 ≤ one) (h2 : one ≤ more) (h3 : more ≤ 100) (hm : ∀ x y, x < wd → y < hi → mAt ms wd x y < dp) {x y : Nat} (hx : x < wd) (hy : y < hi) :
    (0 ≤ cC P x y (mAt ms wd x y) ∧ cC P x y (mAt ms wd x y) ≤ 100) ∧ (0 ≤ jR ms wd one more x y ∧ jR ms wd one more x y ≤ 100) ∧ (0 ≤ jD ms wd hi one more x y ∧ jD ms wd hi one more x y ≤ 100) ∧ 0 ≤ cellI P ms wd hi one more x y ∧ cellI P ms wd hi one more x y ≤ 300 := by
  have a := hc x y _ hx hy (hm x y hx hy)
  have hp := fun a b => prI_bd h1 h2 a b
  have b : 0 ≤ jR ms wd one more x y ∧ jR ms wd one more x y ≤ 100 := by
    unfold jR
    split
    · have := hp (mAt ms wd x y) (mAt ms wd (x + 1) y); omega
    · omega
  have cc : 0 ≤ jD ms wd hi one more x y ∧ jD ms wd hi one more x y ≤ 100 := by
    unfold jD
    split
    · have := hp (mAt ms wd x y) (mAt ms wd x (y + 1)); omega
    · omega
  refine ⟨a, b, cc, ?_⟩
  unfold cellI; omega

set_option maxHeartbeats 4000000 in
theorem mapCost_ok (w : World) (wd hi dp N Nv qv cv q c : Nat) (bs : List Nat) (P : Int → Int → List Int) (ms : List Nat) (one more : Int) (hC : Cst P bs wd hi dp N Nv one more)
    (hv : SlF w (.slice (some ⟨qv, 0, none⟩) Nv cv) bs) (hlv : bs.length = wd * hi * dp) (hm : WM w q c N ms dp) :
    Calls Try.prog 25 #[.agg #[.int .i64 wd, .int .i64 hi, .int .i64 dp, .slice (some ⟨qv, 0, none⟩) Nv cv], .agg #[.float .f32 (fq 2 one), .float .f32 (fq 2 more)], .agg #[.int .i64 wd, .int .i64 hi, .slice (some ⟨q, 0, none⟩) N c]] w fun e w' => e = .returned (.tuple #[.float .f32 (fq 2 (costI P ms wd hi one more)), .bool true]) ∧ Below w.heap.size w w' := by
  obtain ⟨d1, d2, d3, d4, d5, d6, d7, d8, d9, d10⟩ := hC.dims
  have HC := Lib.hid hC
  have KVP := Lib.hid (fun w => validPrices_yes w one more hC.o0 hC.o1 (by have := hC.o2; omega))
  have KPR := Lib.hid (fun (w : World) (a b : Nat) (ha : a < 100) (hb : b < 100) => price_any w one more a b ha hb)
  have HQ1 := Lib.hid d7
  have hmm : ∀ x y, x < wd → y < hi → mAt ms wd x y < dp := fun x y hx hy => hm.mat d7 hx hy
  have HMM := Lib.hid hmm
  have HCB := Lib.hid (fun (x y : Nat) (hx : x < wd) (hy : y < hi) => cell_bd (P := P) hC.hc hC.o0 hC.o1 hC.o2 hmm hx hy)
  have HROW := Lib.hid (fun (y : Nat) (hy : y < hi) (n : Nat) (hn : n ≤ wd) => sN_bd (F := fun x => cellI P ms wd hi one more x y) (B := 300) n (fun x hx => (HCB.out x y (show x < wd by omega) hy).2.2.2))
  have HALL := Lib.hid (fun (n : Nat) (hn : n ≤ hi) => sN_bd (F := fun y => sN wd fun x => cellI P ms wd hi one more x y) (B := 7200) n (fun y hy => by have := HROW.out y (by omega) wd (Nat.le_refl _); omega))
  have HCO := Lib.hid (show costI P ms wd hi one more = sN hi (fun y => sN wd fun x => cellI P ms wd hi one more x y) from rfl)
  have HPB := Lib.hid (fun a b => prI_bd hC.o0 hC.o1 a b)
  have hm100 : more ≤ 100 := hC.o2
  obtain ⟨vo, hvo⟩ : ∃ vo, vo = fq 2 one := ⟨_, rfl⟩
  obtain ⟨vm, hvm⟩ : ∃ vm, vm = fq 2 more := ⟨_, rfl⟩
  rw [← hvo, ← hvm] at KVP KPR ⊢
  clear hvo hvm hC d7 hmm
  have hb0 := (below_two w (.cells #[.int .i64 wd, .int .i64 hi, .int .i64 dp, .slice (some ⟨qv, 0, none⟩) Nv cv] 26) (.cells #[.float .f32 vo, .float .f32 vm] 30)).alloc (by simp; omega) (.cells #[.int .i64 wd, .int .i64 hi, .slice (some ⟨q, 0, none⟩) N c] 48)
  have BV := (BoxN.first w #[.int .i64 wd, .int .i64 hi, .int .i64 dp, .slice (some ⟨qv, 0, none⟩) Nv cv] 26 (.cells #[.float .f32 vo, .float .f32 vm] 30)).below (alb1_ _ (.cells #[.int .i64 wd, .int .i64 hi, .slice (some ⟨q, 0, none⟩) N c] 48))
  have BP := (BoxN.second w #[.float .f32 vo, .float .f32 vm] 30 (.cells #[.int .i64 wd, .int .i64 hi, .int .i64 dp, .slice (some ⟨qv, 0, none⟩) Nv cv] 26)).below (alb1_ _ (.cells #[.int .i64 wd, .int .i64 hi, .slice (some ⟨q, 0, none⟩) N c] 48))
  have BM := BoxN.second (w.alloc (.cells #[.int .i64 wd, .int .i64 hi, .int .i64 dp, .slice (some ⟨qv, 0, none⟩) Nv cv] 26)) #[.int .i64 wd, .int .i64 hi, .slice (some ⟨q, 0, none⟩) N c] 48 (.cells #[.float .f32 vo, .float .f32 vm] 30)
  rw [show (w.alloc (.cells #[.int .i64 wd, .int .i64 hi, .int .i64 dp, .slice (some ⟨qv, 0, none⟩) Nv cv] 26)).heap.size + 1 = w.heap.size + 2 by simp] at BM
  have hv1 := hv.below hb0
  have hm1 := hm.below hb0
  have HB0 := Lib.hid hb0
  clear hv hm hb0
  go_enter Try.func25, Try.ntmps25
  go_wp2_with fail
  refine (isWhole_yes _ wd hi dp N q c Nv _ cv ms HC.out.vv HC.out.vp hm1 d9).mono ?_
  rintro e w1 ⟨rfl, hb1⟩
  replace BV := BV.below hb1
  replace BP := BP.below hb1
  replace BM := BM.below hb1
  replace hv1 := hv1.below hb1
  replace hm1 := hm1.below hb1
  have HB1 := Lib.hid (HB0.out.trans (hb1.mono HB0.out.size))
  clear hb1 HB0
  have zp0 := BP.cell 0
  have zp1 := BP.cell 1
  simp only [List.size_toArray, List.length_cons, List.length_nil, List.getElem?_toArray, List.getElem?_cons_zero, List.getElem?_cons_succ] at zp0 zp1
  go_wp2_with fail
  clear zp0 zp1
  refine (KVP.out _).mono ?_
  rintro e w2 ⟨rfl, hb1⟩
  replace BV := BV.below hb1
  replace BP := BP.below hb1
  replace BM := BM.below hb1
  replace hv1 := hv1.below hb1
  replace hm1 := hm1.below hb1
  have HB2 := Lib.hid (HB1.out.trans (hb1.mono HB1.out.size))
  have HV := Lib.hid (show VolAt w2 w.heap.size wd hi dp qv 0 Nv cv bs from ⟨BV, hv1, hlv⟩)
  have HMB := Lib.hid (show MB w2 (w.heap.size + 1 + 1) wd hi q c N ms dp from ⟨BM.three, hm1⟩)
  have HBP := Lib.hid BP
  obtain ⟨z0, z1, z2, -, -, -⟩ := BM.three.cells
  have hs0 : fq 2 0 = 0 := fq_zero 2
  clear hb1 HB1 BV BP BM hv1 hm1
  have x24 : (wd : Int) ≤ 24 := by omega
  have y24 : (hi : Int) ≤ 24 := by omega
  go_wp2_with fail
  clear z0 z1 z2
  generalize hvb : w.heap.size = vb at *
  have HVB := Lib.hid hvb
  clear hvb
  go_loopw [8, 23] (fun v8 v23 wr => ∃ y : Nat, v23 = .int .i64 y ∧ y ≤ hi ∧ v8 = .float .f32 (fq 2 (sN y (fun y => sN wd fun x => cellI P ms wd hi one more x y))) ∧ Below w2.heap.size w2 wr) (fun _ v23 _ => hi - (intOf v23).toNat)
  case atStart => exact ⟨0, rfl, Nat.zero_le _, by rw [← hs0]; rfl, Below.refl _ _⟩
  case round =>
    clear hs0
    obtain ⟨y, rfl, hy, rfl, hbl⟩ := hrel
    have hall := HALL.out y hy
    obtain ⟨S, hS⟩ : ∃ S, S = sN y (fun y => sN wd fun x => cellI P ms wd hi one more x y) := ⟨_, rfl⟩
    rw [← hS] at hall ⊢
    have HSS := Lib.hid hS
    have hy24 : (7200 : Int) * (y : Int) ≤ 172800 := by omega
    clear hS
    by_cases hlt : y < hi
    · have HBL := Lib.hid hbl
      obtain ⟨z0, z1, z2, -, -, -⟩ := (HMB.out.below hbl).box.cells
      clear hbl
      go_wp2_with fail
      clear z0 z1 z2
      go_loopw [8, 28] (fun v8 v28 wr => ∃ x : Nat, v28 = .int .i64 x ∧ x ≤ wd ∧ v8 = .float .f32 (fq 2 (S + sN x (fun x => cellI P ms wd hi one more x y))) ∧ Below w2.heap.size w2 wr) (fun _ v28 _ => wd - (intOf v28).toNat)
      case atStart => exact ⟨0, rfl, Nat.zero_le _, by simp [sN], HBL.out⟩
      case round =>
        clear HBL
        obtain ⟨x, rfl, hx, rfl, hbl⟩ := hrel
        have hrow := HROW.out y hlt x hx
        obtain ⟨T, hT⟩ : ∃ T, T = S + sN x (fun x => cellI P ms wd hi one more x y) := ⟨_, rfl⟩
        have hTb : 0 ≤ T ∧ T ≤ 180000 := by rw [hT]; omega
        rw [← hT]
        have HTT := Lib.hid hT
        clear hT hrow
        by_cases hltx : x < wd
        · have HBL := Lib.hid hbl
          have hcb := HCB.out x y hltx hlt
          have hd0m := HMM.out x y hltx hlt
          have hnew : S + sN (x + 1) (fun x => cellI P ms wd hi one more x y) = T + cC P x y (mAt ms wd x y) + jR ms wd one more x y + jD ms wd hi one more x y := by
            rw [HTT.out]
            show S + (sN x _ + cellI P ms wd hi one more x y) = _
            unfold cellI; omega
          have HNEW := Lib.hid hnew
          have KW := Lib.hid (fun W (hW : Below w2.heap.size w2 W) x' y' hx' hy' => whole_any W (vb + 1 + 1) wd hi q c N dp ms (x' : Nat) (y' : Nat) x' y' rfl rfl hx' hy' d2 d4 HQ1.out d6 (HMB.out.below hW))
          have hM := HMB.out.below hbl
          have hVA := HV.out.below hbl
          have HMBOX := Lib.hid hM.box
          have cq : gc bs wd dp x y (mAt ms wd x y) = fq 2 (cC P x y (mAt ms wd x y)) := ((HC.out.qv.2 x y hltx hlt).2 _ hd0m)
          have ad1 := fq_add (g := 2) (a := T) (b := cC P x y (mAt ms wd x y)) (by omega) (by omega) (by omega)
          have ad2 := fq_add (g := 2) (a := T + cC P x y (mAt ms wd x y)) (b := jR ms wd one more x y) (by omega) (by omega) (by omega)
          have ad3 := fq_add (g := 2) (a := T + cC P x y (mAt ms wd x y) + jR ms wd one more x y) (b := jD ms wd hi one more x y) (by omega) (by omega) (by omega)
          have hjR0 : ¬ x + 1 < wd → jR ms wd one more x y = 0 := fun h => by unfold jR; rw [if_neg h]
          have hjD0 : ¬ y + 1 < hi → jD ms wd hi one more x y = 0 := fun h => by unfold jD; rw [if_neg h]
          have hjR1 : x + 1 < wd → jR ms wd one more x y = prI one more (mAt ms wd x y) (mAt ms wd (x + 1) y) := fun h => by unfold jR; rw [if_pos h]
          have hjD1 : y + 1 < hi → jD ms wd hi one more x y = prI one more (mAt ms wd x y) (mAt ms wd x (y + 1)) := fun h => by unfold jD; rw [if_pos h]
          have KW1 := Lib.hid (fun (h : x + 1 < wd) W (hW : Below w2.heap.size w2 W) => whole_any W (vb + 1 + 1) wd hi q c N dp ms ((x : Int) + 1) (y : Int) (x + 1) y (by omega) rfl h hlt d2 d4 HQ1.out d6 (HMB.out.below hW))
          have KW2 := Lib.hid (fun (h : y + 1 < hi) W (hW : Below w2.heap.size w2 W) => whole_any W (vb + 1 + 1) wd hi q c N dp ms (x : Int) ((y : Int) + 1) x (y + 1) rfl (by omega) hltx h d2 d4 HQ1.out d6 (HMB.out.below hW))
          have KP1 := Lib.hid (fun (h : x + 1 < wd) W => KPR.out W (mAt ms wd x y) (mAt ms wd (x + 1) y) (by omega) (by have := HMM.out (x + 1) y h hlt; omega))
          have KP2 := Lib.hid (fun (h : y + 1 < hi) W => KPR.out W (mAt ms wd x y) (mAt ms wd x (y + 1)) (by omega) (by have := HMM.out x (y + 1) hltx h; omega))
          have K0 := Lib.hid (KW.out wr hbl x y hltx hlt)
          have KC := Lib.hid (fun n => cell_any (wr.drewN n) vb wd hi dp qv 0 Nv cv bs x y x y rfl rfl hltx hlt d2 d4 d5 d6 (hVA.drewN n))
          have zc := (hVA.cost hltx hlt hd0m).1
          rw [cq, Nat.zero_add] at zc
          obtain ⟨d0, hd0⟩ : ∃ d0, d0 = mAt ms wd x y := ⟨_, rfl⟩
          rw [← hd0] at ad1 ad2 ad3 hjR1 hjD1 KP1 KP2 K0 zc hd0m hnew
          have HD0 := Lib.hid hd0
          generalize hic : ic wd dp x y = icv at *
          have HJR0 := Lib.hid hjR0
          have HJD0 := Lib.hid hjD0
          have HJR1 := Lib.hid hjR1
          have HJD1 := Lib.hid hjD1
          generalize hcC : cC P x y d0 = C0 at *
          generalize hjr : jR ms wd one more x y = R0 at *
          generalize hjd : jD ms wd hi one more x y = D0 at *
          have HcC := Lib.hid hcC
          have HJR := Lib.hid hjr
          have HJD := Lib.hid hjd
          obtain ⟨f1, hf1⟩ : ∃ f, f = fq 2 (T + C0) := ⟨_, rfl⟩
          obtain ⟨f2, hf2⟩ : ∃ f, f = fq 2 (T + C0 + R0) := ⟨_, rfl⟩
          obtain ⟨f3, hf3⟩ : ∃ f, f = fq 2 (T + C0 + R0 + D0) := ⟨_, rfl⟩
          rw [← hf1] at ad1 ad2
          rw [← hf2] at ad2 ad3
          rw [← hf3] at ad3
          have HF1 := Lib.hid hf1
          have HF2 := Lib.hid hf2
          have HF3 := Lib.hid hf3
          obtain ⟨fc, hfc⟩ : ∃ f, f = fq 2 C0 := ⟨_, rfl⟩
          obtain ⟨fr, hfr⟩ : ∃ f, f = fq 2 R0 := ⟨_, rfl⟩
          obtain ⟨fd, hfd⟩ : ∃ f, f = fq 2 D0 := ⟨_, rfl⟩
          rw [← hfc] at ad1 zc
          rw [← hfr] at ad2
          rw [← hfd] at ad3
          have HFC := Lib.hid hfc
          have HFR := Lib.hid hfr
          have HFD := Lib.hid hfd
          have a1 := fres_some ad1
          have a2 := fdr_some ad1
          have AD2 := Lib.hid ad2
          have AD3 := Lib.hid ad3
          generalize fq 2 T = ft at *
          have hd00 : ∀ W : World, W.drewN 0 = W := fun _ => rfl
          have b0 : (d0 : Int) < (dp : Int) := by omega
          clear hcb hnew cq ad1 ad2 ad3 hjR0 hjD0 hjR1 hjD1 hd0 hic hcC hjr hjd hf1 hf2 hf3 hfc hfr hfd hM hVA hall hTb hbl
          go_wp2_with fail
          refine K0.out.mono ?_
          rintro e w' ⟨rfl, n1, rfl⟩
          go_wp2_with fail
          refine (KC.out _).mono ?_
          rintro e w' ⟨rfl, n2, rfl⟩
          clear K0 KC
          go_wp2_with fail
          generalize hwz : wr.drewN (n1 + n2) = wz at *
          have hbz : Below w2.heap.size w2 wz := by rw [← hwz]; exact below_drewN HBL.out _
          have HBZ := Lib.hid hbz
          have hMz := HMB.out.below hbz
          clear hwz a1 a2 zc hbz
          refine (mapHas_any wz (vb + 1 + 1) wd hi _ _ _ (by omega) (by omega) hMz.box).mono ?_
          clear hMz
          by_cases hgx : x + 1 < wd
          · have hin : inB ((x : Int) + 1) (y : Int) wd hi = true := inB_iff.2 (by omega)
            rw [hin]
            rintro e w' ⟨rfl, rfl⟩
            clear hin
            go_wp2_with fail
            have CELLS1 : ∀ W, Below w2.heap.size w2 W → (Below w2.heap.size w2 W ∧ W.cell? ⟨vb + 1, 0, none⟩ = some (.float .f32 vo) ∧ W.cell? ⟨vb + 1, 1, none⟩ = some (.float .f32 vm)) := fun W hW => by
              have o := HBP.out.below hW
              have o0 := o.cell 0
              have o1 := o.cell 1
              simp only [List.size_toArray, List.length_cons, List.length_nil, List.getElem?_toArray, List.getElem?_cons_zero, List.getElem?_cons_succ] at o0 o1
              exact ⟨hW, o0, o1⟩
            have CELLS1 := Lib.hid CELLS1
            have hA01 : Below w2.heap.size w2 (wz).drew := below_drewN HBZ.out 1
            have hwR : IntKind.i64.wrap ((x : Int) + 1) = (x : Int) + 1 := IntWalk.i64_in _ (by omega)
            have s1a := fres_some AD2.out
            have s1b := fdr_some AD2.out
            have KWW1 := Lib.hid (KW1.out hgx)
            have KPP1 := KP1.out hgx
            rw [← HJR1.out hgx, ← HFR.out] at KPP1
            have KPP1 := Lib.hid KPP1
            go_region_held3 (fun W => Below w2.heap.size w2 W ∧ W.cell? ⟨vb + 1, 0, none⟩ = some (.float .f32 vo) ∧ W.cell? ⟨vb + 1, 1, none⟩ = some (.float .f32 vm))
              (first | exact CELLS1.out _ hC1 | exact CELLS1.out _ hB1 | exact CELLS1.out _ hA01 | go_keep)
              ((first
                | (go_at_call 65; (try rw [hwR]); with_reducible refine (KWW1.out _ hA01).mono ?_; rintro e wS1 ⟨rfl, nS, hwS⟩; have hB1 : Below w2.heap.size w2 wS1 := (by rw [hwS]; exact below_drewN hA01 _); clear hwS)
                | (go_at_call 60; with_reducible refine (KPP1.out _).mono ?_; rintro e wT1 ⟨rfl, bS⟩; have hC1 : Below w2.heap.size w2 wT1 := hB1.trans (bS.mono hB1.size); clear bS)))
            go_wp2_with fail
            have HBY := Lib.hid hC1
            have hMy := HMB.out.below HBY.out
            refine (mapHas_any wT1 (vb + 1 + 1) wd hi _ _ _ (by omega) (by omega) hMy.box).mono ?_
            clear hMy
            by_cases hgy : y + 1 < hi
            · have hin : inB (x : Int) ((y : Int) + 1) wd hi = true := inB_iff.2 (by omega)
              rw [hin]
              rintro e w' ⟨rfl, rfl⟩
              clear hin
              go_wp2_with fail
              have CELLS2 : ∀ W, Below w2.heap.size w2 W → (Below w2.heap.size w2 W ∧ W.cell? ⟨vb + 1, 0, none⟩ = some (.float .f32 vo) ∧ W.cell? ⟨vb + 1, 1, none⟩ = some (.float .f32 vm)) := fun W hW => by
                have o := HBP.out.below hW
                have o0 := o.cell 0
                have o1 := o.cell 1
                simp only [List.size_toArray, List.length_cons, List.length_nil, List.getElem?_toArray, List.getElem?_cons_zero, List.getElem?_cons_succ] at o0 o1
                exact ⟨hW, o0, o1⟩
              have CELLS2 := Lib.hid CELLS2
              have hA02 : Below w2.heap.size w2 (wT1).drew := below_drewN HBY.out 1
              have hwD : IntKind.i64.wrap ((y : Int) + 1) = (y : Int) + 1 := IntWalk.i64_in _ (by omega)
              have s2a := fres_some AD3.out
              have s2b := fdr_some AD3.out
              have KWW2 := Lib.hid (KW2.out hgy)
              have KPP2 := KP2.out hgy
              rw [← HJD1.out hgy, ← HFD.out] at KPP2
              have KPP2 := Lib.hid KPP2
              go_region_held3 (fun W => Below w2.heap.size w2 W ∧ W.cell? ⟨vb + 1, 0, none⟩ = some (.float .f32 vo) ∧ W.cell? ⟨vb + 1, 1, none⟩ = some (.float .f32 vm))
                (first | exact CELLS2.out _ hC2 | exact CELLS2.out _ hB2 | exact CELLS2.out _ hA02 | go_keep)
                ((first
                  | (go_at_call 65; (try rw [hwD]); with_reducible refine (KWW2.out _ hA02).mono ?_; rintro e wS2 ⟨rfl, nS, hwS⟩; have hB2 : Below w2.heap.size w2 wS2 := (by rw [hwS]; exact below_drewN hA02 _); clear hwS)
                  | (go_at_call 60; with_reducible refine (KPP2.out _).mono ?_; rintro e wT2 ⟨rfl, bS⟩; have hC2 : Below w2.heap.size w2 wT2 := hB2.trans (bS.mono hB2.size); clear bS)))
              go_wp2
              go_roundw
              case rel => exact ⟨x + 1, by go_num, by omega, by rw [HNEW.out, ← HD0.out, HcC.out, HF3.out], hC2⟩
              case measure => simp [intOf]; omega
            · have hin : inB (x : Int) ((y : Int) + 1) wd hi = false := by
                cases e : inB (x : Int) ((y : Int) + 1) wd hi
                · rfl
                · have := inB_iff.1 e; omega
              rw [hin]
              rintro e w' ⟨rfl, rfl⟩
              clear hin
              have hd0' : D0 = 0 := HJD0.out hgy
              go_wp2
              go_roundw
              case rel => exact ⟨x + 1, by go_num, by omega, by rw [HNEW.out, ← HD0.out, HcC.out, hd0', Int.add_zero, HF2.out], HBY.out⟩
              case measure => simp [intOf]; omega
          · have hin : inB ((x : Int) + 1) (y : Int) wd hi = false := by
              cases e : inB ((x : Int) + 1) (y : Int) wd hi
              · rfl
              · have := inB_iff.1 e; omega
            rw [hin]
            rintro e w' ⟨rfl, rfl⟩
            clear hin
            have hr0 : R0 = 0 := HJR0.out hgx
            have hff : f2 = f1 := by rw [HF2.out, HF1.out, hr0, Int.add_zero]
            have AD3b := AD3.out
            rw [hff] at AD3b
            have AD3b := Lib.hid AD3b
            go_wp2_with fail
            have hMy := HMB.out.below HBZ.out
            refine (mapHas_any wz (vb + 1 + 1) wd hi _ _ _ (by omega) (by omega) hMy.box).mono ?_
            clear hMy
            by_cases hgy : y + 1 < hi
            · have hin : inB (x : Int) ((y : Int) + 1) wd hi = true := inB_iff.2 (by omega)
              rw [hin]
              rintro e w' ⟨rfl, rfl⟩
              clear hin
              go_wp2_with fail
              have CELLS2 : ∀ W, Below w2.heap.size w2 W → (Below w2.heap.size w2 W ∧ W.cell? ⟨vb + 1, 0, none⟩ = some (.float .f32 vo) ∧ W.cell? ⟨vb + 1, 1, none⟩ = some (.float .f32 vm)) := fun W hW => by
                have o := HBP.out.below hW
                have o0 := o.cell 0
                have o1 := o.cell 1
                simp only [List.size_toArray, List.length_cons, List.length_nil, List.getElem?_toArray, List.getElem?_cons_zero, List.getElem?_cons_succ] at o0 o1
                exact ⟨hW, o0, o1⟩
              have CELLS2 := Lib.hid CELLS2
              have hA02 : Below w2.heap.size w2 (wz).drew := below_drewN HBZ.out 1
              have hwD : IntKind.i64.wrap ((y : Int) + 1) = (y : Int) + 1 := IntWalk.i64_in _ (by omega)
              have s2a := fres_some AD3b.out
              have s2b := fdr_some AD3b.out
              have KWW2 := Lib.hid (KW2.out hgy)
              have KPP2 := KP2.out hgy
              rw [← HJD1.out hgy, ← HFD.out] at KPP2
              have KPP2 := Lib.hid KPP2
              go_region_held3 (fun W => Below w2.heap.size w2 W ∧ W.cell? ⟨vb + 1, 0, none⟩ = some (.float .f32 vo) ∧ W.cell? ⟨vb + 1, 1, none⟩ = some (.float .f32 vm))
                (first | exact CELLS2.out _ hC2 | exact CELLS2.out _ hB2 | exact CELLS2.out _ hA02 | go_keep)
                ((first
                  | (go_at_call 65; (try rw [hwD]); with_reducible refine (KWW2.out _ hA02).mono ?_; rintro e wS2 ⟨rfl, nS, hwS⟩; have hB2 : Below w2.heap.size w2 wS2 := (by rw [hwS]; exact below_drewN hA02 _); clear hwS)
                  | (go_at_call 60; with_reducible refine (KPP2.out _).mono ?_; rintro e wT2 ⟨rfl, bS⟩; have hC2 : Below w2.heap.size w2 wT2 := hB2.trans (bS.mono hB2.size); clear bS)))
              go_wp2
              go_roundw
              case rel => exact ⟨x + 1, by go_num, by omega, by rw [HNEW.out, ← HD0.out, HcC.out, HF3.out], hC2⟩
              case measure => simp [intOf]; omega
            · have hin : inB (x : Int) ((y : Int) + 1) wd hi = false := by
                cases e : inB (x : Int) ((y : Int) + 1) wd hi
                · rfl
                · have := inB_iff.1 e; omega
              rw [hin]
              rintro e w' ⟨rfl, rfl⟩
              clear hin
              have hd0' : D0 = 0 := HJD0.out hgy
              go_wp2
              go_roundw
              case rel => exact ⟨x + 1, by go_num, by omega, by rw [HNEW.out, ← HD0.out, HcC.out, hd0', Int.add_zero, hr0, Int.add_zero, HF1.out], HBZ.out⟩
              case measure => simp [intOf]; omega
        · obtain rfl : x = wd := by omega
          have HBL := Lib.hid hbl
          generalize hft : fq 2 T = ft at *
          have HFT := Lib.hid hft
          clear hbl hft hall hTb
          go_wp2
          go_roundw
          case rel => exact ⟨y + 1, by go_num, by omega, by rw [← HFT.out, HTT.out, HSS.out]; rfl, HBL.out⟩
          case measure => simp [intOf]; omega
    · obtain rfl : y = hi := by omega
      obtain ⟨z0, z1, z2, -, -, -⟩ := (HMB.out.below hbl).box.cells
      have HBL := Lib.hid hbl
      generalize hft : fq 2 S = ft at *
      have HFT := Lib.hid hft
      clear hbl hft hall
      go_wp2
      go_ret2
      have hb2 := HB2.out
      rw [← HVB.out] at hb2
      exact ⟨by first | (rw [HCO.out, ← HSS.out, HFT.out]; done) | (rw [HCO.out, ← HSS.out, HFT.out]; rfl), hb2.trans (HBL.out.mono hb2.size)⟩

end Go.Proofs.Ytfhlpabbacopjaa
