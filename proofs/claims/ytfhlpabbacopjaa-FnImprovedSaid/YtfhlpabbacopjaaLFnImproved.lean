/- The law of improved maps: the walk of its code. No condition. -/
import Derived.Test.YtfhlpabbacopjaaIh
import Derived.Deep.CutRange
import Derived.Deep.RegionHeld3
import Derived.StillTactics
namespace Go.Proofs.Ytfhlpabbacopjaa
open Go.RowKit
set_option maxRecDepth 100000
set_option linter.unusedVariables false
set_option linter.unusedSimpArgs false

def ownOf (ks : List Int) (wd dp : Nat) : Int → Int → List Int := fun x y => (ks.drop (ic wd dp x.toNat y.toNat)).take dp
theorem own_qv {ks : List Int} {wd hi dp : Nat} (hl : ks.length = wd * hi * dp) : QV (ks.map (fq 2)) wd hi dp (ownOf ks wd dp) := by
  refine ⟨by simpa using hl, fun x y hx hy => ?_⟩
  have hle := ic_le (dp := dp) hx hy
  unfold ownOf
  simp only [Int.toNat_natCast]
  refine ⟨by rw [List.length_take, List.length_drop]; omega, fun d hd => ?_⟩
  rw [getD_map_fq 2 _ _ (by omega)]
  congr 1
  rw [List.getD_eq_getElem?_getD, List.getD_eq_getElem?_getD, List.getElem?_take, if_pos hd, List.getElem?_drop]
theorem own_bd {ks : List Int} {wd dp : Nat} (hb : ∀ k ∈ ks, 0 ≤ k ∧ k ≤ 16) (x y : Int) : ∀ k ∈ ownOf ks wd dp x y, 0 ≤ k ∧ k ≤ 16 := fun k hk => hb k (List.mem_of_mem_drop (List.mem_of_mem_take hk))
theorem news_at {w : World} {b off cap n : Nat} {bs : List Nat} (h : SlF w (.slice (some ⟨b, off, none⟩) n cap) bs) : ∀ j u, (bs.map (Value.float .f32))[j]? = some u → w.cell? ((⟨b, off, none⟩ : Addr).add j) = some u := by
  intro j u hu
  rw [List.getElem?_map] at hu
  cases hj : bs[j]? with
  | none => rw [hj] at hu; simp at hu
  | some x =>
    rw [hj] at hu
    have hlt : j < bs.length := by
      rcases Nat.lt_or_ge j bs.length with h1 | h1
      · exact h1
      · rw [List.getElem?_eq_none h1] at hj; cases hj
    have := (h.at j hlt).1
    have hadd : (⟨b, off, none⟩ : Addr).add j = ⟨b, off + j, none⟩ := by unfold Addr.add; split <;> simp_all
    rw [hadd, this]
    rw [List.getD_eq_getElem?_getD, hj]
    simpa using hu
theorem ownQ {w2 : World} {B B' gg cap N : Nat} {bs : List Nat} (h : w2.ownsRow B 28 1 (.slice (some ⟨gg, 0, none⟩) (0 + N) cap) (0 + N) (([] : List Nat).map (Value.float .f32) ++ bs.map (Value.float .f32))) (hl : bs.length = N) (hp : ∀ b ∈ bs, b < 4294967296) (hB : B' ≤ B) : OwnF w2 B' (.slice (some ⟨gg, 0, none⟩) N cap) bs := by
  refine OwnF.mono (B := B) ⟨?_, hp⟩ hB
  subst hl
  simpa using h
theorem ownSet3 {w : World} {B gg N cap ob i j k : Nat} {bs : List Nat} {u v x : Value} (h : OwnF w B (.slice (some ⟨gg, 0, none⟩) N cap) bs) (hne : gg ≠ ob) : OwnF (((w.setCell ⟨ob, i, none⟩ u).setCell ⟨ob, j, none⟩ v).setCell ⟨ob, k, none⟩ x) B (.slice (some ⟨gg, 0, none⟩) N cap) bs :=
  ((h.grown (grown_setCell _ _ _) (.inr (by simpa [Value.ownBlock] using hne))).grown (grown_setCell _ _ _) (.inr (by simpa [Value.ownBlock] using hne))).grown (grown_setCell _ _ _) (.inr (by simpa [Value.ownBlock] using hne))
theorem own_cC {ks : List Int} {wd dp : Nat} (hb : ∀ k ∈ ks, 0 ≤ k ∧ k ≤ 16) (x y d : Nat) : 0 ≤ cC (ownOf ks wd dp) x y d ∧ cC (ownOf ks wd dp) x y d ≤ 100 := by
  unfold cC
  rw [List.getD_eq_getElem?_getD]
  cases e : (ownOf ks wd dp x y)[d]? with
  | none => exact ⟨Int.le_refl _, by decide⟩
  | some z => have := own_bd hb (x : Int) (y : Int) z (List.mem_of_getElem? e); exact ⟨by simpa using this.1, by show z ≤ 100; omega⟩
theorem costI_bd {P : Int → Int → List Int} {bs : List Nat} {wd hi dp N Nv : Nat} {one more : Int} {ms : List Nat} (h : Cst P bs wd hi dp N Nv one more) (hl : ms.length = N) (hb : ∀ m ∈ ms, m < dp) : 0 ≤ costI P ms wd hi one more ∧ costI P ms wd hi one more ≤ 200000 := by
  obtain ⟨d1, d2, d3, d4, d5, d6, d7, d8, d9, d10⟩ := h.dims
  have hm : ∀ x y, x < wd → y < hi → mAt ms wd x y < dp := by
    intro x y hx hy
    unfold mAt
    rw [List.getD_eq_getElem?_getD, List.getElem?_eq_getElem (by rw [hl, d7]; exact cell_lt hx hy)]
    exact hb _ (List.getElem_mem _)
  have row : ∀ y, y < hi → 0 ≤ sN wd (fun x => cellI P ms wd hi one more x y) ∧ sN wd (fun x => cellI P ms wd hi one more x y) ≤ 7200 := fun y hy => by
    have := sN_bd (F := fun x => cellI P ms wd hi one more x y) (B := 300) wd (fun x hx => (cell_bd h.hc h.o0 h.o1 h.o2 hm hx hy).2.2.2)
    omega
  have := sN_bd (F := fun y => sN wd fun x => cellI P ms wd hi one more x y) (B := 7200) hi row
  unfold costI grid
  omega
theorem locI_bd {P : Int → Int → List Int} {bs : List Nat} {wd hi dp N Nv : Nat} {one more : Int} (ms : List Nat) (h : Cst P bs wd hi dp N Nv one more) {x y d : Nat} (hx : x < wd) (hy : y < hi) (hd : d < dp) : 0 ≤ locI P ms wd hi one more x y d ∧ locI P ms wd hi one more x y d ≤ 600 :=
  loc_bd h.o0 h.o1 h.o2 (h.hc x y d hx hy hd) 4 (Nat.le_refl _)

theorem fnImproved_long (w : World) (a0 a1 : Option Addr) (l0 c0 l1 c1 : Nat) (m0 : l0 ≤ 9223372036854775807) (m1 : l1 ≤ 9223372036854775807) (h : ¬ (l0 ≤ 48 ∧ l1 ≤ 48)) :
    Calls Try.prog 5 #[.slice a0 l0 c0, .slice a1 l1 c1] w fun e w' => e = .returned (.bool true) ∧ Below w.heap.size w w' := by
  go_enter Try.func5, Try.ntmps5
  go_wp2_with fail
  refine (r8Long_yes _ _ _ _ _ _ _ m0 m1 h).mono ?_
  rintro e w' ⟨rfl, rfl⟩
  go_wp2
  go_ret
  exact ⟨rfl, Below.refl _ _⟩

set_option maxHeartbeats 40000000 in
theorem fnImproved_short (w : World) (a0 a1 : Option Addr) (l0 c0 l1 c1 : Nat) (h0 : l0 ≤ 48) (h1 : l1 ≤ 48) (hb0 : BytesIn w a0 l0) (hb1 : BytesIn w a1 l1) :
    Calls Try.prog 5 #[.slice a0 l0 c0, .slice a1 l1 c1] w fun e w' => e = .returned (.bool true) ∧ Below w.heap.size w w' := by
  go_enter Try.func5, Try.ntmps5
  go_wp2_with fail
  refine (r8Long_no _ _ _ _ _ _ _ h0 h1).mono ?_
  rintro e w' ⟨rfl, rfl⟩
  obtain ⟨i0, hi0, hz0, hz1, hz2⟩ := info_parts info_f32
  go_wp2_with fail
  refine (r8Volume_any _ _ _ _ hb0).mono ?_
  rintro e wA ⟨wd, hi, dp, qA, cA, ks, rfl, v1, v2, v3, v4, v5, v6, hkl, hown, hkb, bw⟩
  obtain ⟨Nv, hNv⟩ : ∃ Nv, Nv = wd * hi * dp := ⟨_, rfl⟩
  obtain ⟨N, hN⟩ : ∃ N, N = wd * hi := ⟨_, rfl⟩
  rw [hkl, ← hNv] at hown ⊢
  have hN12 : N ≤ 12 := by rw [hN]; exact Nat.mul_le_mul v2 v4
  have hN1 : 1 ≤ N := by rw [hN]; exact Nat.mul_pos (by omega) (by omega)
  have hNv48 : Nv ≤ 48 := by rw [hNv]; have := Nat.mul_le_mul (Nat.mul_le_mul v2 v4) v6; omega
  have vA : VQ wA wd hi dp qA cA Nv (ks.map (fq 2)) (ownOf ks wd dp) := ⟨hown.sl, (hown.lt (k := qA) rfl).2, own_qv hkl⟩
  have hvn : vVol wd hi dp Nv = true := by rw [hNv]; exact vVol_of v1 (by omega) v3 (by omega) (by have := Nat.mul_le_mul v2 v4; omega) v5 (by omega)
  have hvp : vPic wd hi N = true := by rw [hN]; exact vPic_of v1 (by omega) v3 (by omega) (by rw [← hN]; omega)
  have hcc := fun x y d => own_cC (wd := wd) (dp := dp) hkb x y d
  have hlv : (ks.map (fq 2)).length = wd * hi * dp := by rw [List.length_map, hkl]
  have hqq := own_qv (wd := wd) (hi := hi) (dp := dp) hkl
  generalize hown_ : ownOf ks wd dp = own at *
  generalize hbs_ : ks.map (fq 2) = bsA at *
  have HQQ := Lib.hid hqq
  have HCC := Lib.hid hcc
  have HLV := Lib.hid hlv
  have HVN := Lib.hid hvn
  have HVP := Lib.hid hvp
  have HN := Lib.hid hN
  have ha : Below wA.heap.size wA (wA.alloc (.cells #[.int .i64 wd, .int .i64 hi, .int .i64 dp, .slice (some ⟨qA, 0, none⟩) Nv cA] 26)) := (Below.refl _ _).alloc (Nat.le_refl _) _
  have bA := BoxN.last wA #[.int .i64 wd, .int .i64 hi, .int .i64 dp, .slice (some ⟨qA, 0, none⟩) Nv cA] 26
  replace vA := vA.below ha
  have hbel := bw.trans (ha.mono bw.size)
  replace hb1 := hb1.below hbel
  clear hown bw ha hvn hvp hkl hkb hb0 hN hNv hown_ hbs_ hcc hlv hqq
  go_wp2_with fail
  generalize hoA : wA.heap.size = oA at *
  generalize hwA : wA.alloc (.cells #[.int .i64 wd, .int .i64 hi, .int .i64 dp, .slice (some ⟨qA, 0, none⟩) Nv cA] 26) = WA at *
  clear hoA hwA
  refine (r8Prices_any _ _ _ _ hb1).mono ?_
  rintro e wP ⟨one, more, rfl, p1, p2, p3, bw⟩
  have hC : Cst own bsA wd hi dp N Nv one more := ⟨HVN.out, HVP.out, HQQ.out, fun x y d _ _ _ => HCC.out x y d, p1, p2, by omega⟩
  have HC := Lib.hid hC
  clear hC
  have ha : Below wP.heap.size wP (wP.alloc (.cells #[.float .f32 (fq 2 one), .float .f32 (fq 2 more)] 30)) := (Below.refl _ _).alloc (Nat.le_refl _) _
  have bP := BoxN.last wP #[.float .f32 (fq 2 one), .float .f32 (fq 2 more)] 30
  replace bA := (bA.below bw).below ha
  replace vA := (vA.below bw).below ha
  replace hb1 := (hb1.below bw).below ha
  replace hbel := (hbel.trans (bw.mono hbel.size)).trans (ha.mono (Nat.le_trans hbel.size bw.size))
  clear bw ha
  obtain ⟨zA0, zA1, zA2, zA3, -, -, -, -⟩ := bA.four
  go_wp2_with fail
  generalize hoP : wP.heap.size = oP at *
  generalize hwP : wP.alloc (.cells #[.float .f32 (fq 2 one), .float .f32 (fq 2 more)] 30) = WP at *
  clear hoP hwP
  clear zA0 zA1 zA2 zA3
  refine (r8Whole_any _ _ _ _ wd hi dp N _ Nv cA hb1 v1 (by omega) v3 (by omega) HN.out (by omega) v5 (by omega)).mono ?_
  rintro e wM ⟨qM, cM, msM, rfl, mM, bw⟩
  have HLM := Lib.hid mM.len
  have HBM := Lib.hid mM.bd
  have ha : Below wM.heap.size wM (wM.alloc (.cells #[.int .i64 wd, .int .i64 hi, .slice (some ⟨qM, 0, none⟩) N cM] 48)) := (Below.refl _ _).alloc (Nat.le_refl _) _
  have bM := BoxN.last wM #[.int .i64 wd, .int .i64 hi, .slice (some ⟨qM, 0, none⟩) N cM] 48
  replace mM := mM.below ha
  replace bA := (bA.below bw).below ha
  replace vA := (vA.below bw).below ha
  replace hb1 := (hb1.below bw).below ha
  replace bP := (bP.below bw).below ha
  replace hbel := (hbel.trans (bw.mono hbel.size)).trans (ha.mono (Nat.le_trans hbel.size bw.size))
  clear bw ha
  go_wp2_with fail
  generalize hoM : wM.heap.size = oM at *
  generalize hwM : wM.alloc (.cells #[.int .i64 wd, .int .i64 hi, .slice (some ⟨qM, 0, none⟩) N cM] 48) = WM at *
  clear hoM hwM
  refine (r8At_any _ _ _ _ 1 5 (by omega) (by omega) (by omega) hb1).mono ?_
  rintro e w' ⟨x, rfl, x0, x1, rfl⟩
  obtain ⟨rd, rfl⟩ := Int.eq_ofNat_of_zero_le x0
  have hrd : rd ≤ 20 := by omega
  clear x0 x1
  obtain ⟨zA0, zA1, zA2, zA3, -, -, -, -⟩ := bA.four
  have zP0 := bP.cell 0
  have zP1 := bP.cell 1
  simp only [List.size_toArray, List.length_cons, List.length_nil, List.getElem?_toArray, List.getElem?_cons_zero, List.getElem?_cons_succ] at zP0 zP1
  obtain ⟨zM0, zM1, zM2, -, -, -⟩ := bM.three.cells
  go_wp2_with fail
  clear zA0 zA1 zA2 zA3 zP0 zP1 zM0 zM1 zM2
  refine (improve_ok _ wd hi dp N Nv qA cA qM cM rd bsA own msM one more HC.out hrd vA.sl vA.qlt HLV.out mM).mono ?_
  rintro e wB ⟨qB, cB, nB, msB, rfl, mB, imB, bw⟩
  have IMB := Lib.hid imB
  clear imB
  have ha : Below wB.heap.size wB (wB.alloc (.cells #[.int .i64 wd, .int .i64 hi, .slice (some ⟨qB, 0, none⟩) N cB] 48)) := (Below.refl _ _).alloc (Nat.le_refl _) _
  have bB := BoxN.last wB #[.int .i64 wd, .int .i64 hi, .slice (some ⟨qB, 0, none⟩) N cB] 48
  replace mB := mB.below ha
  replace bA := (bA.below bw).below ha
  replace vA := (vA.below bw).below ha
  replace hb1 := (hb1.below bw).below ha
  replace bP := (bP.below bw).below ha
  replace bM := (bM.below bw).below ha
  replace mM := (mM.below bw).below ha
  replace hbel := (hbel.trans (bw.mono hbel.size)).trans (ha.mono (Nat.le_trans hbel.size bw.size))
  clear bw ha
  obtain ⟨zA0, zA1, zA2, zA3, -, -, -, -⟩ := bA.four
  have zP0 := bP.cell 0
  have zP1 := bP.cell 1
  simp only [List.size_toArray, List.length_cons, List.length_nil, List.getElem?_toArray, List.getElem?_cons_zero, List.getElem?_cons_succ] at zP0 zP1
  obtain ⟨zM0, zM1, zM2, -, -, -⟩ := bM.three.cells
  go_wp2_with fail
  generalize hoB : wB.heap.size = oB at *
  generalize hwB : wB.alloc (.cells #[.int .i64 wd, .int .i64 hi, .slice (some ⟨qB, 0, none⟩) N cB] 48) = WB at *
  clear hoB hwB
  clear zA0 zA1 zA2 zA3 zP0 zP1 zM0 zM1 zM2
  refine (mapCost_ok _ wd hi dp N Nv qA cA qM cM bsA own msM one more HC.out vA.sl HLV.out mM).mono ?_
  rintro e wU ⟨rfl, bw⟩
  replace bA := bA.below bw
  replace vA := vA.below bw
  replace hb1 := hb1.below bw
  replace bP := bP.below bw
  replace bM := bM.below bw
  replace mM := mM.below bw
  replace bB := bB.below bw
  replace mB := mB.below bw
  replace hbel := hbel.trans (bw.mono hbel.size)
  clear bw
  obtain ⟨zA0, zA1, zA2, zA3, -, -, -, -⟩ := bA.four
  have zP0 := bP.cell 0
  have zP1 := bP.cell 1
  simp only [List.size_toArray, List.length_cons, List.length_nil, List.getElem?_toArray, List.getElem?_cons_zero, List.getElem?_cons_succ] at zP0 zP1
  obtain ⟨zB0, zB1, zB2, -, -, -⟩ := bB.three.cells
  go_wp2_with fail
  clear zA0 zA1 zA2 zA3 zP0 zP1 zB0 zB1 zB2
  refine (mapCost_ok _ wd hi dp N Nv qA cA qB cB bsA own msB one more HC.out vA.sl HLV.out mB).mono ?_
  rintro e wV ⟨rfl, bw⟩
  replace bA := bA.below bw
  replace vA := vA.below bw
  replace hb1 := hb1.below bw
  replace bP := bP.below bw
  replace bM := bM.below bw
  replace mM := mM.below bw
  replace bB := bB.below bw
  replace mB := mB.below bw
  replace hbel := hbel.trans (bw.mono hbel.size)
  clear bw
  obtain ⟨zA0, zA1, zA2, zA3, -, -, -, -⟩ := bA.four
  have zP0 := bP.cell 0
  have zP1 := bP.cell 1
  simp only [List.size_toArray, List.length_cons, List.length_nil, List.getElem?_toArray, List.getElem?_cons_zero, List.getElem?_cons_succ] at zP0 zP1
  obtain ⟨zB0, zB1, zB2, -, -, -⟩ := bB.three.cells
  go_wp2_with fail
  clear zA0 zA1 zA2 zA3 zP0 zP1 zB0 zB1 zB2
  refine (improve_ok _ wd hi dp N Nv qA cA qB cB 20 bsA own msB one more HC.out (Nat.le_refl _) vA.sl vA.qlt HLV.out mB).mono ?_
  rintro e wR ⟨qR, cR, nR, msR, rfl, mR, imR, bw⟩
  have IMR := Lib.hid imR
  clear imR
  have ha : Below wR.heap.size wR (wR.alloc (.cells #[.int .i64 wd, .int .i64 hi, .slice (some ⟨qR, 0, none⟩) N cR] 48)) := (Below.refl _ _).alloc (Nat.le_refl _) _
  have bR := BoxN.last wR #[.int .i64 wd, .int .i64 hi, .slice (some ⟨qR, 0, none⟩) N cR] 48
  replace mR := mR.below ha
  replace bA := (bA.below bw).below ha
  replace vA := (vA.below bw).below ha
  replace hb1 := (hb1.below bw).below ha
  replace bP := (bP.below bw).below ha
  replace bM := (bM.below bw).below ha
  replace mM := (mM.below bw).below ha
  replace bB := (bB.below bw).below ha
  replace mB := (mB.below bw).below ha
  replace hbel := (hbel.trans (bw.mono hbel.size)).trans (ha.mono (Nat.le_trans hbel.size bw.size))
  clear bw ha
  obtain ⟨zA0, zA1, zA2, zA3, -, -, -, -⟩ := bA.four
  have zP0 := bP.cell 0
  have zP1 := bP.cell 1
  simp only [List.size_toArray, List.length_cons, List.length_nil, List.getElem?_toArray, List.getElem?_cons_zero, List.getElem?_cons_succ] at zP0 zP1
  obtain ⟨zR0, zR1, zR2, -, -, -⟩ := bR.three.cells
  go_wp2_with fail
  generalize hoR : wR.heap.size = oR at *
  generalize hwR : wR.alloc (.cells #[.int .i64 wd, .int .i64 hi, .slice (some ⟨qR, 0, none⟩) N cR] 48) = WR at *
  clear hoR hwR
  clear zA0 zA1 zA2 zA3 zP0 zP1 zR0 zR1 zR2
  refine (improve_ok _ wd hi dp N Nv qA cA qR cR 1 bsA own msR one more HC.out (by decide) vA.sl vA.qlt HLV.out mR).mono ?_
  rintro e wG ⟨qG, cG, nG, msG, rfl, mG, imG, bw⟩
  have IMG := Lib.hid imG
  clear imG
  have ha : Below wG.heap.size wG (wG.alloc (.cells #[.int .i64 wd, .int .i64 hi, .slice (some ⟨qG, 0, none⟩) N cG] 48)) := (Below.refl _ _).alloc (Nat.le_refl _) _
  have bG := BoxN.last wG #[.int .i64 wd, .int .i64 hi, .slice (some ⟨qG, 0, none⟩) N cG] 48
  replace mG := mG.below ha
  replace bA := (bA.below bw).below ha
  replace vA := (vA.below bw).below ha
  replace hb1 := (hb1.below bw).below ha
  replace bP := (bP.below bw).below ha
  replace bM := (bM.below bw).below ha
  replace mM := (mM.below bw).below ha
  replace bB := (bB.below bw).below ha
  replace mB := (mB.below bw).below ha
  replace bR := (bR.below bw).below ha
  replace mR := (mR.below bw).below ha
  replace hbel := (hbel.trans (bw.mono hbel.size)).trans (ha.mono (Nat.le_trans hbel.size bw.size))
  clear bw ha
  obtain ⟨zA0, zA1, zA2, zA3, -, -, -, -⟩ := bA.four
  obtain ⟨zM0, zM1, zM2, -, -, -⟩ := bM.three.cells
  go_wp2_with fail
  generalize hoG : wG.heap.size = oG at *
  generalize hwG : wG.alloc (.cells #[.int .i64 wd, .int .i64 hi, .slice (some ⟨qG, 0, none⟩) N cG] 48) = WG at *
  clear hoG hwG
  clear zA0 zA1 zA2 zA3 zM0 zM1 zM2
  refine (jumpsOf_ok _ wd hi dp N Nv qA cA qM cM msM HVN.out HVP.out (by omega) HN.out v1 (by omega) v3 (by omega) (by omega) mM).mono ?_
  rintro e wJ ⟨gJ, kJ, rfl, oJ, nJ, sJ, bw⟩
  have NJ := Lib.hid nJ
  have SJ := Lib.hid sJ
  clear nJ sJ
  replace bA := bA.below bw
  replace vA := vA.below bw
  replace hb1 := hb1.below bw
  replace bP := bP.below bw
  replace bM := bM.below bw
  replace mM := mM.below bw
  replace bB := bB.below bw
  replace mB := mB.below bw
  replace bR := bR.below bw
  replace mR := mR.below bw
  replace bG := bG.below bw
  replace mG := mG.below bw
  replace hbel := hbel.trans (bw.mono hbel.size)
  clear bw
  have cMc := costI_bd HC.out HLM.out HBM.out
  have cB_ := costI_bd HC.out mB.len mB.bd
  obtain ⟨i1, i2, i3, i4, i5⟩ := IMB.out
  obtain ⟨j1, j2, j3, j4, j5⟩ := IMG.out
  have I3 := Lib.hid i3
  have I5 := Lib.hid i5
  have t1 : lt32 (fq 2 (costI own msM wd hi one more)) (fq 2 (costI own msB wd hi one more)) = false := by rw [lt32_fq (by omega) (by omega)]; exact decide_eq_false (by omega)
  have t2 : le32 (fq 2 (costI own msM wd hi one more)) (fq 2 (costI own msB wd hi one more)) = decide (costI own msM wd hi one more ≤ costI own msB wd hi one more) := le32_fq (by omega) (by omega)
  have T2 := Lib.hid t2
  have tg : decide (msG = msR) = ((nG : Int) == 0) := by
    by_cases e : nG = 0
    · rw [j3 e, e]; simp
    · have hlt := j5 (by omega)
      rw [decide_eq_false (fun h => by rw [h] at hlt; omega)]
      symm; rw [beq_eq_false_iff_ne]; omega
  have TG := Lib.hid tg
  clear i1 i2 i3 i4 i5 j1 j2 j3 j4 j5 t2 tg
  obtain ⟨bb, hbb⟩ : ∃ bb, ((nG : Int) == 0) = bb := ⟨_, rfl⟩
  have HTG : decide (msG = msR) = bb := by rw [TG.out, hbb]
  have HTG := Lib.hid HTG
  have k3 : decide ((nR : Int) < 0) = false := decide_eq_false (by omega)
  obtain ⟨P1, hP1⟩ : ∃ P : Int, P = ((wd : Int) - 1) * hi := ⟨_, rfl⟩
  obtain ⟨P2, hP2⟩ : ∃ P : Int, P = (wd : Int) * ((hi : Int) - 1) := ⟨_, rfl⟩
  have hP1b : 0 ≤ P1 ∧ P1 ≤ 3 * 3 := by rw [hP1]; exact ⟨Int.mul_nonneg (by omega) (by omega), Int.mul_le_mul (by omega) (by omega) (by omega) (by omega)⟩
  have hP2b : 0 ≤ P2 ∧ P2 ≤ 4 * 3 := by rw [hP2]; exact ⟨Int.mul_nonneg (by omega) (by omega), Int.mul_le_mul (by omega) (by omega) (by omega) (by omega)⟩
  have hw1 : IntKind.i64.wrap (((wd : Int) - 1) * (hi : Int)) = P1 := by rw [← hP1]; exact IntWalk.i64_in _ (by omega)
  have hw2 : IntKind.i64.wrap ((wd : Int) * ((hi : Int) - 1)) = P2 := by rw [← hP2]; exact IntWalk.i64_in _ (by omega)
  have hsj := SJ.out
  rw [← hP1, ← hP2] at hsj
  unfold sum3 at hsj
  have HW := Lib.hid (And.intro hw1 hw2)
  have HSJ := Lib.hid hsj
  have HPB := Lib.hid (And.intro hP1b hP2b)
  clear hP1 hP2 hP1b hP2b hw1 hw2 hsj
  obtain ⟨zA0, zA1, zA2, zA3, -, -, -, -⟩ := bA.four
  obtain ⟨zB0, zB1, zB2, -, -, -⟩ := bB.three.cells
  go_wp2_with fail
  clear zA0 zA1 zA2 zA3 zB0 zB1 zB2
  refine (isWhole_yes _ wd hi dp N qB cB Nv (some ⟨qA, 0, none⟩) cA msB HVN.out HVP.out mB (by omega)).mono ?_
  rintro e wI ⟨rfl, bw⟩
  replace bA := bA.below bw
  replace vA := vA.below bw
  replace hb1 := hb1.below bw
  replace bP := bP.below bw
  replace bM := bM.below bw
  replace mM := mM.below bw
  replace bB := bB.below bw
  replace mB := mB.below bw
  replace bR := bR.below bw
  replace mR := mR.below bw
  replace bG := bG.below bw
  replace mG := mG.below bw
  replace oJ := oJ.below bw
  replace hbel := hbel.trans (bw.mono hbel.size)
  clear bw
  by_cases hn0 : nB = 0
  · have HN0 := Lib.hid (I3.out hn0)
    subst hn0
    obtain ⟨zB0, zB1, zB2, -, -, -⟩ := bB.three.cells
    obtain ⟨zM0, zM1, zM2, -, -, -⟩ := bM.three.cells
    go_wp2_with fail
    clear zB0 zB1 zB2 zM0 zM1 zM2
    refine (sameMap_w _ wd hi qB cB qM cM N dp msB msM (by omega) (by omega) mB mM).mono ?_
    rw [decide_eq_true HN0.out]
    rintro e wX ⟨rfl, bw⟩
    replace bA := bA.below bw
    replace vA := vA.below bw
    replace hb1 := hb1.below bw
    replace bP := bP.below bw
    replace bM := bM.below bw
    replace mM := mM.below bw
    replace bB := bB.below bw
    replace mB := mB.below bw
    replace bR := bR.below bw
    replace mR := mR.below bw
    replace bG := bG.below bw
    replace mG := mG.below bw
    replace oJ := oJ.below bw
    replace hbel := hbel.trans (bw.mono hbel.size)
    clear bw
    obtain ⟨zG0, zG1, zG2, -, -, -⟩ := bG.three.cells
    obtain ⟨zR0, zR1, zR2, -, -, -⟩ := bR.three.cells
    go_wp2_with fail
    clear zG0 zG1 zG2 zR0 zR1 zR2
    refine (sameMap_w _ wd hi qG cG qR cR N dp msG msR (by omega) (by omega) mG mR).mono ?_
    rw [HTG.out]
    rintro e wY ⟨rfl, bw⟩
    replace bA := bA.below bw
    replace vA := vA.below bw
    replace hb1 := hb1.below bw
    replace bP := bP.below bw
    replace bM := bM.below bw
    replace mM := mM.below bw
    replace bB := bB.below bw
    replace mB := mB.below bw
    replace bR := bR.below bw
    replace mR := mR.below bw
    replace bG := bG.below bw
    replace mG := mG.below bw
    replace oJ := oJ.below bw
    replace hbel := hbel.trans (bw.mono hbel.size)
    clear bw
    clear mG mR bG bR mB bB
    have s0 := oJ.cellAt 0 (by rw [oJ.len.1]; decide)
    have s1 := oJ.cellAt 1 (by rw [oJ.len.1]; decide)
    have s2 := oJ.cellAt 2 (by rw [oJ.len.1]; decide)
    have hsj := HSJ.out
    have n0 := NJ.out 0
    have n1 := NJ.out 1
    have n2 := NJ.out 2
    generalize kJ.getD 0 0 = ja at s0 hsj n0
    generalize kJ.getD 1 0 = jb at s1 hsj n1
    generalize kJ.getD 2 0 = jc at s2 hsj n2
    obtain ⟨⟨pa1, pa2⟩, ⟨pb1, pb2⟩⟩ := HPB.out
    obtain ⟨hw1, hw2⟩ := HW.out
    obtain ⟨zA0, zA1, zA2, zA3, -, -, -, -⟩ := bA.four
    go_wp2_with fail
    go_quiet (fail)
    go_upto_region 18 with fail
    generalize hwz : wY.drewN nq = wZ at *
    have bw : Below wY.heap.size wY wZ := by rw [← hwz]; exact below_drewN (Below.refl _ _) _
    clear hwz s0 s1 s2 hsj n0 n1 n2 oJ hw1 hw2 pa1 pa2 pb1 pb2 zA0 zA1 zA2 zA3
    replace bA := bA.below bw
    replace vA := vA.below bw
    replace hb1 := hb1.below bw
    replace bP := bP.below bw
    replace bM := bM.below bw
    replace mM := mM.below bw
    replace hbel := hbel.trans (bw.mono hbel.size)
    clear bw
    obtain ⟨zA0, zA1, zA2, zA3, -, -, -, -⟩ := bA.four
    go_wp2_with fail
    clear zA0 zA1 zA2 zA3
    refine (r8At_any _ _ _ _ 2 wd (by omega) (by omega) (by omega) hb1).mono ?_
    rintro e w' ⟨x, rfl, x0, x1, rfl⟩
    obtain ⟨X, rfl⟩ := Int.eq_ofNat_of_zero_le x0
    have hX : X < wd := by omega
    clear x0 x1
    obtain ⟨zA0, zA1, zA2, zA3, -, -, -, -⟩ := bA.four
    go_wp2_with fail
    clear zA0 zA1 zA2 zA3
    refine (r8At_any _ _ _ _ 3 hi (by omega) (by omega) (by omega) hb1).mono ?_
    rintro e w' ⟨x, rfl, x0, x1, rfl⟩
    obtain ⟨Y, rfl⟩ := Int.eq_ofNat_of_zero_le x0
    have hY : Y < hi := by omega
    clear x0 x1
    obtain ⟨zA0, zA1, zA2, zA3, -, -, -, -⟩ := bA.four
    go_wp2_with fail
    clear zA0 zA1 zA2 zA3
    refine (r8At_any _ _ _ _ 4 dp (by omega) (by omega) (by omega) hb1).mono ?_
    rintro e w' ⟨x, rfl, x0, x1, rfl⟩
    obtain ⟨D, rfl⟩ := Int.eq_ofNat_of_zero_le x0
    have hD : D < dp := by omega
    clear x0 x1
    have ZM : ∀ W, Below wZ.heap.size wZ W → W.cell? ⟨oM, 0, none⟩ = some (.int .i64 wd) ∧ W.cell? ⟨oM, 1, none⟩ = some (.int .i64 hi) ∧ W.cell? ⟨oM, 2, none⟩ = some (.slice (some ⟨qM, 0, none⟩) N cM) := fun W hW => by
      obtain ⟨y0, y1, y2, -, -, -⟩ := (bM.below hW).three.cells
      exact ⟨y0, y1, y2⟩
    have ZM := Lib.hid ZM
    have NW := Lib.hid (fun W (hW : Below wZ.heap.size wZ W) => news_at (mM.below hW).sl)
    have HMB := Lib.hid bM
    have HMM := Lib.hid mM
    have HMAL := Lib.hid (show (msM.map wW).length = N by rw [List.length_map, HLM.out])
    have HCAP := Lib.hid mM.sl.size
    have hcap1 : N ≤ cM := HCAP.out.2.1
    have hcap2 : cM ≤ 9223372036854775807 := HCAP.out.2.2
    clear bM mM
    go_upto_region 21 with fail
    go_cut [28] from 199 to 207 (fun v28 wx => ∃ ob qo co : Nat, v28 = .pointer (some ⟨ob, 0, none⟩) ∧ BoxN wx ob #[.int .i64 wd, .int .i64 hi, .slice (some ⟨qo, 0, none⟩) N co] 48 ∧ OwnF wx wZ.heap.size (.slice (some ⟨qo, 0, none⟩) N co) (msM.map wW) ∧ Below wZ.heap.size wZ wx ∧ qo ≠ ob)
    case first =>
      have ea : OwnF (wZ.alloc (.cells #[] 28)) wZ.heap.size (.slice (some ⟨wZ.heap.size, 0, none⟩) 0 0) [] := ⟨⟨rfl, .inr ⟨wZ.heap.size, 0, #[], rfl, Nat.le_refl _, heap_alloc_new wZ _, Nat.le_refl _, by unfold maxLen; omega, rfl, rfl⟩⟩, by simp⟩
      have eb : OwnF ((wZ.alloc (.cells #[.int .i64 0, .int .i64 0, .slice none 0 0] 48)).alloc (.cells #[] 28)) (wZ.heap.size + 1) (.slice (some ⟨wZ.heap.size + 1, 0, none⟩) 0 0) [] := by
        have h := (show OwnF ((wZ.alloc (.cells #[.int .i64 0, .int .i64 0, .slice none 0 0] 48)).alloc (.cells #[] 28)) (wZ.alloc (.cells #[.int .i64 0, .int .i64 0, .slice none 0 0] 48)).heap.size (.slice (some ⟨(wZ.alloc (.cells #[.int .i64 0, .int .i64 0, .slice none 0 0] 48)).heap.size, 0, none⟩) 0 0) [] from ⟨⟨rfl, .inr ⟨_, 0, #[], rfl, Nat.le_refl _, heap_alloc_new _ _, Nat.le_refl _, by unfold maxLen; omega, rfl, rfl⟩⟩, by simp⟩)
        rw [show (wZ.alloc (.cells #[.int .i64 0, .int .i64 0, .slice none 0 0] 48)).heap.size = wZ.heap.size + 1 by simp] at h
        exact h
      have w1 : OwnF (wZ.alloc (.cells #[] 28)).drew wZ.heap.size (.slice (some ⟨wZ.heap.size, 0, none⟩) 0 0) [] := ea.drewN 1
      have w2_ : OwnF ((wZ.alloc (.cells #[] 28)).alloc (.cells #[.int .i64 0, .int .i64 0, .slice none 0 0] 48)).drew wZ.heap.size (.slice (some ⟨wZ.heap.size, 0, none⟩) 0 0) [] := (ea.below (alb1_ _ _)).drewN 1
      have w3_ : OwnF ((wZ.alloc (.cells #[.int .i64 0, .int .i64 0, .slice none 0 0] 48)).alloc (.cells #[] 28)).drew (wZ.heap.size + 1) (.slice (some ⟨wZ.heap.size + 1, 0, none⟩) 0 0) [] := eb.drewN 1
      have hz0_ : Below wZ.heap.size wZ wZ.drew := below_drewN (Below.refl _ _) 1
      have ha_ : Below wZ.heap.size wZ (wZ.alloc (.cells #[] 28)) := alb1_ _ _
      have hr_ : Below wZ.heap.size wZ (wZ.alloc (.cells #[.int .i64 0, .int .i64 0, .slice none 0 0] 48)) := alb1_ _ _
      have had : Below wZ.heap.size wZ (wZ.alloc (.cells #[] 28)).drew := below_drewN ha_ 1
      have hrd_ : Below wZ.heap.size wZ (wZ.alloc (.cells #[.int .i64 0, .int .i64 0, .slice none 0 0] 48)).drew := below_drewN hr_ 1
      have h2_ : Below wZ.heap.size wZ ((wZ.alloc (.cells #[] 28)).alloc (.cells #[.int .i64 0, .int .i64 0, .slice none 0 0] 48)).drew := below_drewN (ha_.alloc ha_.size _) 1
      have h3_ : Below wZ.heap.size wZ ((wZ.alloc (.cells #[.int .i64 0, .int .i64 0, .slice none 0 0] 48)).alloc (.cells #[] 28)).drew := below_drewN (hr_.alloc hr_.size _) 1
      have x2_ : BoxN ((wZ.alloc (.cells #[] 28)).alloc (.cells #[.int .i64 0, .int .i64 0, .slice none 0 0] 48)).drew (wZ.heap.size + 1) #[.int .i64 0, .int .i64 0, .slice none 0 0] 48 := by
        have h := (BoxN.last (wZ.alloc (.cells #[] 28)) #[.int .i64 0, .int .i64 0, .slice none 0 0] 48).drewN 1
        rw [show (wZ.alloc (.cells #[] 28)).heap.size = wZ.heap.size + 1 by simp] at h
        exact h
      have x3_ : BoxN ((wZ.alloc (.cells #[.int .i64 0, .int .i64 0, .slice none 0 0] 48)).alloc (.cells #[] 28)).drew wZ.heap.size #[.int .i64 0, .int .i64 0, .slice none 0 0] 48 := ((BoxN.last wZ #[.int .i64 0, .int .i64 0, .slice none 0 0] 48).below (alb1_ _ _)).drewN 1
      have y1_ := NW.out _ had
      have y2_ := NW.out _ h2_
      have y3_ := NW.out _ h3_
      go_region_held3 (fun W => Below wZ.heap.size wZ W ∧ W.cell? ⟨oM, 0, none⟩ = some (.int .i64 wd) ∧ W.cell? ⟨oM, 1, none⟩ = some (.int .i64 hi) ∧ W.cell? ⟨oM, 2, none⟩ = some (.slice (some ⟨qM, 0, none⟩) N cM))
        (first | exact ⟨hz0_, ZM.out _ hz0_⟩ | exact ⟨ha_, ZM.out _ ha_⟩ | exact ⟨hr_, ZM.out _ hr_⟩ | exact ⟨had, ZM.out _ had⟩ | exact ⟨hrd_, ZM.out _ hrd_⟩ | exact ⟨h2_, ZM.out _ h2_⟩ | exact ⟨h3_, ZM.out _ h3_⟩ | exact ⟨hq0, ZM.out _ hq0⟩ | exact ⟨hq1, ZM.out _ hq1⟩ | exact ⟨hq2, ZM.out _ hq2⟩ | exact ⟨(hq0.alloc hq0.size _), ZM.out _ (hq0.alloc hq0.size _)⟩ | exact ⟨(((hq1.setCell (by simp) _).setCell (by simp) _).setCell (by simp) _), ZM.out _ (((hq1.setCell (by simp) _).setCell (by simp) _).setCell (by simp) _)⟩ | exact ⟨(((hq2.setCell (Nat.le_refl _) _).setCell (Nat.le_refl _) _).setCell (Nat.le_refl _) _), ZM.out _ (((hq2.setCell (Nat.le_refl _) _).setCell (Nat.le_refl _) _).setCell (Nat.le_refl _) _)⟩ | go_keep)
        ((first
          | (refine step_append_lies _ (by rfl) _ _ _ (by rfl) wZ.heap.size 28 i0 _ 1 4 Try.underlying24 hi0 hz0 hz1 hz2 rfl (by omega) (.slice (some ⟨wZ.heap.size, 0, none⟩) 0 0) 0 _ (by rfl) w1.1 ⟨qM, 0, none⟩ N cM ((msM.map wW).map (Value.float .f32)) (by rfl) (by simp [HLM.out]) y1_ (by simp [Value.oneCell']) (by omega) (by unfold maxLen; omega) (by omega) (by first | (simp; done) | (simp; omega)) (wZ.heap.size + 1) (by first | (simp; done) | (simp; omega)) ?_; intro gg capo wQ hown2 hgrow hat hlt2; have hq0 := had.grown hgrow (by first | (simp; done) | (simp; omega)) (fun k hk => by simp [Value.ownBlock] at hk; omega))
          | (refine step_append_lies _ (by rfl) _ _ _ (by rfl) wZ.heap.size 28 i0 _ 1 4 Try.underlying24 hi0 hz0 hz1 hz2 rfl (by omega) (.slice (some ⟨wZ.heap.size, 0, none⟩) 0 0) 0 _ (by rfl) w2_.1 ⟨qM, 0, none⟩ N cM ((msM.map wW).map (Value.float .f32)) (by rfl) (by simp [HLM.out]) y2_ (by simp [Value.oneCell']) (by omega) (by unfold maxLen; omega) (by omega) (by first | (simp; done) | (simp; omega)) (wZ.heap.size + 2) (by first | (simp; done) | (simp; omega)) ?_; intro gg capo wQ hown2 hgrow hat hlt2; have hq1 := h2_.grown hgrow (by first | (simp; done) | (simp; omega)) (fun k hk => by simp [Value.ownBlock] at hk; omega); have hx1 := x2_.grown hgrow (by first | (simp [Value.ownBlock]; done) | (simp [Value.ownBlock]; omega)); obtain ⟨q0, q1, q2, f0, f1, f2⟩ := hx1.three.cells)
          | (refine step_append_lies _ (by rfl) _ _ _ (by rfl) (wZ.heap.size + 1) 28 i0 _ 1 4 Try.underlying24 hi0 hz0 hz1 hz2 rfl (by omega) (.slice (some ⟨(wZ.heap.size + 1), 0, none⟩) 0 0) 0 _ (by rfl) w3_.1 ⟨qM, 0, none⟩ N cM ((msM.map wW).map (Value.float .f32)) (by rfl) (by simp [HLM.out]) y3_ (by simp [Value.oneCell']) (by omega) (by unfold maxLen; omega) (by omega) (by first | (simp; done) | (simp; omega)) (wZ.heap.size + 2) (by first | (simp; done) | (simp; omega)) ?_; intro gg capo wQ hown2 hgrow hat hlt2; have hq2 := h3_.grown hgrow (by first | (simp; done) | (simp; omega)) (fun k hk => by simp [Value.ownBlock] at hk; omega); have hx2 := x3_.grown hgrow (by first | (simp [Value.ownBlock]; done) | (simp [Value.ownBlock]; omega)); obtain ⟨q0, q1, q2, f0, f1, f2⟩ := hx2.three.cells)))
      all_goals
        go_wp2_with fail
        go_meet
        first
          | exact ⟨wQ.heap.size, gg, capo, rfl, BoxN.last wQ _ _, (ownQ hown2 HMAL.out HMM.out.sl.2 (Nat.le_refl _)).below (alb1_ wQ _), hq0.alloc hq0.size _, by have := (hown2.lt gg rfl).2; omega⟩
          | (have hqn : gg ≠ wZ.heap.size + 1 := (by rcases hat with e | e <;> first | omega | (simp [Value.ownBlock] at e; omega))
             refine ⟨wZ.heap.size + 1, gg, capo, rfl, ?_, ?_, ((hq1.setCell (by simp) _).setCell (by simp) _).setCell (by simp) _, hqn⟩
             · have := ((hx1.set 0 (.int .i64 wd)).set 1 (.int .i64 hi)).set 2 (.slice (some ⟨gg, 0, none⟩) N capo)
               simpa using this
             · exact ownSet3 (ownQ hown2 HMAL.out HMM.out.sl.2 (Nat.le_refl _)) hqn)
          | (have hqn : gg ≠ wZ.heap.size := (by have := (hown2.lt gg rfl).1; omega)
             refine ⟨wZ.heap.size, gg, capo, rfl, ?_, ?_, ((hq2.setCell (Nat.le_refl _) _).setCell (Nat.le_refl _) _).setCell (Nat.le_refl _) _, hqn⟩
             · have := ((hx2.set 0 (.int .i64 wd)).set 1 (.int .i64 hi)).set 2 (.slice (some ⟨gg, 0, none⟩) N capo)
               simpa using this
             · exact ownSet3 (ownQ hown2 HMAL.out HMM.out.sl.2 (by omega)) hqn)
    case rest =>
      obtain ⟨obO, qO, cO, rfl, bO, oO, bw, hneO⟩ := hcut
      have bM := HMB.out
      have mM := HMM.out
      have hqO := (oO.lt (k := qO) rfl).1
      have hltc : X + wd * Y < N := by rw [HN.out]; exact cell_lt hX hY
      have hlen := HMAL.out
      have cO1 := (oO.sl.at (X + wd * Y) (by rw [hlen]; exact hltc)).1
      rw [Nat.zero_add] at cO1
      have fO1 : wc.frozen? ⟨qO, X + wd * Y, none⟩ = false := World.ownsRow.frozenAt (n := N) (by have := oO.1; rw [hlen] at this; exact this) _
      obtain ⟨wold, hwold⟩ : ∃ wold, (msM.map wW).getD (X + wd * Y) 0 = wold := ⟨_, rfl⟩
      rw [hwold] at cO1
      have of := fq_ofInt (n := (D : Int)) (by omega)
      rw [wW_def] at of
      have hwDlt : wW D < 4294967296 := fq_lt (g := 0) (k := (D : Int)) (by omega)
      have hput := OwnF.put (w := wc) (B := wZ.heap.size) (g := qO) (n := N) (cap := cO) oO (X + wd * Y) hwDlt
      rw [set_words] at hput
      obtain ⟨wD, hwD⟩ : ∃ v, wW D = v := ⟨_, rfl⟩
      rw [hwD] at of hput
      have hmulY : wd * Y ≤ 4 * 3 := Nat.mul_le_mul v2 (by omega)
      have u1 : IntKind.i64.wrap ((wd : Int) * (Y : Int)) = (wd : Int) * (Y : Int) := IntWalk.i64_in _ (by rw [← Int.natCast_mul]; omega)
      have u2 : IntKind.i64.wrap ((X : Int) + (wd : Int) * (Y : Int)) = (X : Int) + (wd : Int) * (Y : Int) := IntWalk.i64_in _ (by rw [← Int.natCast_mul]; omega)
      have u3 : (0 : Int) ≤ (X : Int) + (wd : Int) * (Y : Int) := by rw [← Int.natCast_mul]; omega
      have u4 : (X : Int) + (wd : Int) * (Y : Int) < (N : Int) := by rw [← Int.natCast_mul]; omega
      have u5 : ((X : Int) + (wd : Int) * (Y : Int)).toNat = X + wd * Y := by rw [← Int.natCast_mul]; omega
      have HPUT := Lib.hid hput
      have HOO := Lib.hid oO
      have HBO := Lib.hid bO
      have HBW := Lib.hid bw
      obtain ⟨zO0, zO1, zO2, -, -, -⟩ := bO.three.cells
      obtain ⟨zA0, zA1, zA2, zA3, -, -, -, -⟩ := (bA.below bw).four
      clear hput oO bO bw hwold hlen ZM NW
      go_upto_region 23 with fail
      clear zO0 zO1 zO2 zA0 zA1 zA2 zA3 cO1 fO1 of
      generalize hwS : wc.setCell ⟨qO, X + wd * Y, none⟩ (.float .f32 wD) = wS at *
      have bw : Below wZ.heap.size wZ wS := by rw [← hwS]; exact HBW.out.setCell hqO _
      have bO : BoxN wS obO #[.int .i64 wd, .int .i64 hi, .slice (some ⟨qO, 0, none⟩) N cO] 48 := by rw [← hwS]; exact HBO.out.grown (grown_setCell _ _ _) (by simp; omega)
      have mO : Go.Proofs.Ytfhlpabbacopjaa.WM wS qO cO N (msM.set (X + wd * Y) D) dp := by
        have h := HPUT.out
        refine ⟨h.sl, (h.lt (k := qO) rfl).2, by rw [List.length_set, HLM.out], fun m hm => ?_⟩
        rcases List.mem_or_eq_of_mem_set hm with e | e
        · exact HBM.out m e
        · rw [e]; exact hD
      clear hwS HPUT HOO HBO HBW hb1
      replace bA := bA.below bw
      replace vA := vA.below bw
      replace bP := bP.below bw
      replace bM := bM.below bw
      replace mM := mM.below bw
      replace hbel := hbel.trans (bw.mono hbel.size)
      clear bw
      obtain ⟨m0, hm0⟩ : ∃ m0, m0 = mAt msM wd X Y := ⟨_, rfl⟩
      have hm0d : m0 < dp := by rw [hm0]; exact mM.mat HN.out hX hY
      have cM1 : ∀ W, Below wS.heap.size wS W → W.cell? ⟨qM, X + wd * Y, none⟩ = some (.float .f32 (wW m0)) := fun W hW => by
        have h := ((mM.below hW).sl.at (X + wd * Y) (by rw [List.length_map, mM.len]; exact hltc)).1
        rw [Nat.zero_add, wW_get (by rw [mM.len]; exact hltc)] at h
        rw [hm0]; exact h
      have hc := fq_int (k := (m0 : Int)) (by omega)
      rw [wW_def] at hc
      obtain ⟨wm0, hwm0⟩ : ∃ v, wW m0 = v := ⟨_, rfl⟩
      rw [hwm0] at hc
      simp only [hwm0] at cM1
      have CELLS : ∀ W, Below wS.heap.size wS W → (Below wS.heap.size wS W ∧ W.cell? ⟨oA, 0, none⟩ = some (.int .i64 wd) ∧ W.cell? ⟨oA, 1, none⟩ = some (.int .i64 hi) ∧ W.cell? ⟨oA, 2, none⟩ = some (.int .i64 dp) ∧ W.cell? ⟨oA, 3, none⟩ = some (.slice (some ⟨qA, 0, none⟩) Nv cA) ∧ W.cell? ⟨oP, 0, none⟩ = some (.float .f32 (fq 2 one)) ∧ W.cell? ⟨oP, 1, none⟩ = some (.float .f32 (fq 2 more)) ∧ W.cell? ⟨oM, 0, none⟩ = some (.int .i64 wd) ∧ W.cell? ⟨oM, 1, none⟩ = some (.int .i64 hi) ∧ W.cell? ⟨oM, 2, none⟩ = some (.slice (some ⟨qM, 0, none⟩) N cM) ∧ W.cell? ⟨qM, X + wd * Y, none⟩ = some (.float .f32 wm0)) := fun W hW => by
        obtain ⟨a0, a1, a2, a3, -, -, -, -⟩ := (bA.below hW).four
        obtain ⟨b0, b1, b2, -, -, -⟩ := (bM.below hW).three.cells
        have o := bP.below hW
        have o0 := o.cell 0
        have o1 := o.cell 1
        simp only [List.size_toArray, List.length_cons, List.length_nil, List.getElem?_toArray, List.getElem?_cons_zero, List.getElem?_cons_succ] at o0 o1
        exact ⟨hW, a0, a1, a2, a3, o0, o1, b0, b1, b2, cM1 W hW⟩
      have KL := Lib.hid (fun W (hW : Below wS.heap.size wS W) => localCost_ok W wd hi dp N Nv qA cA qM cM X Y m0 bsA own msM one more HC.out hX hY hm0d (vA.below hW).sl HLV.out (mM.below hW))
      have CELLS := Lib.hid CELLS
      have hA0 : Below wS.heap.size wS wS.drew := below_drewN (Below.refl _ _) 1
      have HM0 := Lib.hid hm0
      have SbA := Lib.hid bA
      have SbP := Lib.hid bP
      have SbM := Lib.hid bM
      have SvA := Lib.hid vA
      have SmM := Lib.hid mM
      have SbO := Lib.hid bO
      have SmO := Lib.hid mO
      clear cM1 hm0 hwm0 bA bP bM vA mM bO mO
      go_region_held3 (fun W => Below wS.heap.size wS W ∧ W.cell? ⟨oA, 0, none⟩ = some (.int .i64 wd) ∧ W.cell? ⟨oA, 1, none⟩ = some (.int .i64 hi) ∧ W.cell? ⟨oA, 2, none⟩ = some (.int .i64 dp) ∧ W.cell? ⟨oA, 3, none⟩ = some (.slice (some ⟨qA, 0, none⟩) Nv cA) ∧ W.cell? ⟨oP, 0, none⟩ = some (.float .f32 (fq 2 one)) ∧ W.cell? ⟨oP, 1, none⟩ = some (.float .f32 (fq 2 more)) ∧ W.cell? ⟨oM, 0, none⟩ = some (.int .i64 wd) ∧ W.cell? ⟨oM, 1, none⟩ = some (.int .i64 hi) ∧ W.cell? ⟨oM, 2, none⟩ = some (.slice (some ⟨qM, 0, none⟩) N cM) ∧ W.cell? ⟨qM, X + wd * Y, none⟩ = some (.float .f32 wm0))
        (first | exact CELLS.out _ hB1 | exact CELLS.out _ hA0 | go_keep)
        ((first
          | (go_at_call 29; with_reducible refine (KL.out _ hA0).mono ?_; rintro e wT ⟨rfl, bT⟩; have hB1 : Below wS.heap.size wS wT := hA0.trans (bT.mono hA0.size); clear bT)))
      clear u1 u2 u3 u4 u5 hc
      have bA := SbA.out
      have bP := SbP.out
      have bM := SbM.out
      have vA := SvA.out
      have mM := SmM.out
      have bO := SbO.out
      have mO := SmO.out
      have bw := hB1
      clear SbA SbP SbM SvA SmM SbO SmO hB1 hA0 KL CELLS
      replace bA := bA.below bw
      replace vA := vA.below bw
      replace bP := bP.below bw
      replace bM := bM.below bw
      replace mM := mM.below bw
      replace bO := bO.below bw
      replace mO := mO.below bw
      replace hbel := hbel.trans (bw.mono hbel.size)
      clear bw
      obtain ⟨zA0, zA1, zA2, zA3, -, -, -, -⟩ := bA.four
      have zP0 := bP.cell 0
      have zP1 := bP.cell 1
      simp only [List.size_toArray, List.length_cons, List.length_nil, List.getElem?_toArray, List.getElem?_cons_zero, List.getElem?_cons_succ] at zP0 zP1
      obtain ⟨zM0, zM1, zM2, -, -, -⟩ := bM.three.cells
      go_wp2_with fail
      clear zA0 zA1 zA2 zA3 zP0 zP1 zM0 zM1 zM2
      refine (localCost_ok _ wd hi dp N Nv qA cA qM cM X Y D bsA own msM one more HC.out hX hY hD vA.sl HLV.out mM).mono ?_
      rintro e wL ⟨rfl, bw⟩
      replace bA := bA.below bw
      replace vA := vA.below bw
      replace bP := bP.below bw
      replace bM := bM.below bw
      replace mM := mM.below bw
      replace bO := bO.below bw
      replace mO := mO.below bw
      replace hbel := hbel.trans (bw.mono hbel.size)
      clear bw
      obtain ⟨zA0, zA1, zA2, zA3, -, -, -, -⟩ := bA.four
      have zP0 := bP.cell 0
      have zP1 := bP.cell 1
      simp only [List.size_toArray, List.length_cons, List.length_nil, List.getElem?_toArray, List.getElem?_cons_zero, List.getElem?_cons_succ] at zP0 zP1
      obtain ⟨zO0, zO1, zO2, -, -, -⟩ := bO.three.cells
      go_wp2_with fail
      clear zA0 zA1 zA2 zA3 zP0 zP1 zO0 zO1 zO2
      refine (mapCost_ok _ wd hi dp N Nv qA cA qO cO bsA own (msM.set (X + wd * Y) D) one more HC.out vA.sl HLV.out mO).mono ?_
      rintro e wQ ⟨rfl, bw⟩
      have cOc := costI_bd HC.out mO.len mO.bd
      replace hbel := hbel.trans (bw.mono hbel.size)
      clear bw bA vA bP bM mM bO mO
      have hset := cost_set (P := own) (ms := msM) (wd := wd) (hi := hi) (x0 := X) (y0 := Y) (d := D) (one := one) (more := more) (by rw [HLM.out, HN.out]) hX hY
      rw [← HM0.out] at hset
      have l1 := locI_bd msM HC.out hX hY hD
      have l2 := locI_bd msM HC.out hX hY hm0d
      have f1 := fq_sub (g := 2) (a := costI own (msM.set (X + wd * Y) D) wd hi one more) (b := costI own msM wd hi one more) (by omega) (by omega) (by omega)
      have f2 := fq_sub (g := 2) (a := locI own msM wd hi one more X Y D) (b := locI own msM wd hi one more X Y m0) (by omega) (by omega) (by omega)
      rw [hset] at f1
      have fe := eq32_fq (g := 2) (a := locI own msM wd hi one more X Y D - locI own msM wd hi one more X Y m0) (b := locI own msM wd hi one more X Y D - locI own msM wd hi one more X Y m0) (by omega) (by omega)
      rw [decide_eq_true rfl] at fe
      have HBE := Lib.hid hbel
      generalize fq 2 (locI own msM wd hi one more X Y D - locI own msM wd hi one more X Y m0) = fz at *
      generalize fq 2 (costI own (msM.set (X + wd * Y) D) wd hi one more) = fa at *
      generalize fq 2 (costI own msM wd hi one more) = fb at *
      generalize fq 2 (locI own msM wd hi one more X Y D) = fc at *
      generalize fq 2 (locI own msM wd hi one more X Y m0) = fd at *
      have r1 := fres_some f1
      have r2 := fdr_some f1
      have r3 := fres_some f2
      have r4 := fdr_some f2
      have hd0 : ∀ W : World, W.drewN 0 = W := fun _ => rfl
      clear hbel hset l1 l2 f1 f2 cOc
      go_wp2
      go_ret
      exact ⟨rfl, by first | exact HBE.out | exact below_drewN HBE.out _⟩
  · have k1 : ((nB : Int) == 0) = false := by rw [beq_eq_false_iff_ne]; omega
    have k2 : decide ((0 : Int) < (nB : Int)) = true := decide_eq_true (by omega)
    have k2b : 0 < nB := by omega
    have t3 : eq32 (fq 2 (costI own msB wd hi one more)) (fq 2 (costI own msM wd hi one more)) = false := by rw [eq32_fq (by omega) (by omega)]; exact decide_eq_false (by have := I5.out (by omega); omega)
    have t2 : le32 (fq 2 (costI own msM wd hi one more)) (fq 2 (costI own msB wd hi one more)) = false := by rw [T2.out]; exact decide_eq_false (by have := I5.out (by omega); omega)
    clear hn0
    obtain ⟨zG0, zG1, zG2, -, -, -⟩ := bG.three.cells
    obtain ⟨zR0, zR1, zR2, -, -, -⟩ := bR.three.cells
    go_wp2_with fail
    clear zG0 zG1 zG2 zR0 zR1 zR2
    refine (sameMap_w _ wd hi qG cG qR cR N dp msG msR (by omega) (by omega) mG mR).mono ?_
    rw [HTG.out]
    rintro e wY ⟨rfl, bw⟩
    replace bA := bA.below bw
    replace vA := vA.below bw
    replace hb1 := hb1.below bw
    replace bP := bP.below bw
    replace bM := bM.below bw
    replace mM := mM.below bw
    replace bB := bB.below bw
    replace mB := mB.below bw
    replace bR := bR.below bw
    replace mR := mR.below bw
    replace bG := bG.below bw
    replace mG := mG.below bw
    replace oJ := oJ.below bw
    replace hbel := hbel.trans (bw.mono hbel.size)
    clear bw
    clear t2 t3 k1 k2 k2b
    clear mG mR bG bR mB bB
    have s0 := oJ.cellAt 0 (by rw [oJ.len.1]; decide)
    have s1 := oJ.cellAt 1 (by rw [oJ.len.1]; decide)
    have s2 := oJ.cellAt 2 (by rw [oJ.len.1]; decide)
    have hsj := HSJ.out
    have n0 := NJ.out 0
    have n1 := NJ.out 1
    have n2 := NJ.out 2
    generalize kJ.getD 0 0 = ja at s0 hsj n0
    generalize kJ.getD 1 0 = jb at s1 hsj n1
    generalize kJ.getD 2 0 = jc at s2 hsj n2
    obtain ⟨⟨pa1, pa2⟩, ⟨pb1, pb2⟩⟩ := HPB.out
    obtain ⟨hw1, hw2⟩ := HW.out
    obtain ⟨zA0, zA1, zA2, zA3, -, -, -, -⟩ := bA.four
    go_wp2_with fail
    go_quiet (fail)
    go_upto_region 18 with fail
    generalize hwz : wY.drewN nq = wZ at *
    have bw : Below wY.heap.size wY wZ := by rw [← hwz]; exact below_drewN (Below.refl _ _) _
    clear hwz s0 s1 s2 hsj n0 n1 n2 oJ hw1 hw2 pa1 pa2 pb1 pb2 zA0 zA1 zA2 zA3
    replace bA := bA.below bw
    replace vA := vA.below bw
    replace hb1 := hb1.below bw
    replace bP := bP.below bw
    replace bM := bM.below bw
    replace mM := mM.below bw
    replace hbel := hbel.trans (bw.mono hbel.size)
    clear bw
    obtain ⟨zA0, zA1, zA2, zA3, -, -, -, -⟩ := bA.four
    go_wp2_with fail
    clear zA0 zA1 zA2 zA3
    refine (r8At_any _ _ _ _ 2 wd (by omega) (by omega) (by omega) hb1).mono ?_
    rintro e w' ⟨x, rfl, x0, x1, rfl⟩
    obtain ⟨X, rfl⟩ := Int.eq_ofNat_of_zero_le x0
    have hX : X < wd := by omega
    clear x0 x1
    obtain ⟨zA0, zA1, zA2, zA3, -, -, -, -⟩ := bA.four
    go_wp2_with fail
    clear zA0 zA1 zA2 zA3
    refine (r8At_any _ _ _ _ 3 hi (by omega) (by omega) (by omega) hb1).mono ?_
    rintro e w' ⟨x, rfl, x0, x1, rfl⟩
    obtain ⟨Y, rfl⟩ := Int.eq_ofNat_of_zero_le x0
    have hY : Y < hi := by omega
    clear x0 x1
    obtain ⟨zA0, zA1, zA2, zA3, -, -, -, -⟩ := bA.four
    go_wp2_with fail
    clear zA0 zA1 zA2 zA3
    refine (r8At_any _ _ _ _ 4 dp (by omega) (by omega) (by omega) hb1).mono ?_
    rintro e w' ⟨x, rfl, x0, x1, rfl⟩
    obtain ⟨D, rfl⟩ := Int.eq_ofNat_of_zero_le x0
    have hD : D < dp := by omega
    clear x0 x1
    have ZM : ∀ W, Below wZ.heap.size wZ W → W.cell? ⟨oM, 0, none⟩ = some (.int .i64 wd) ∧ W.cell? ⟨oM, 1, none⟩ = some (.int .i64 hi) ∧ W.cell? ⟨oM, 2, none⟩ = some (.slice (some ⟨qM, 0, none⟩) N cM) := fun W hW => by
      obtain ⟨y0, y1, y2, -, -, -⟩ := (bM.below hW).three.cells
      exact ⟨y0, y1, y2⟩
    have ZM := Lib.hid ZM
    have NW := Lib.hid (fun W (hW : Below wZ.heap.size wZ W) => news_at (mM.below hW).sl)
    have HMB := Lib.hid bM
    have HMM := Lib.hid mM
    have HMAL := Lib.hid (show (msM.map wW).length = N by rw [List.length_map, HLM.out])
    have HCAP := Lib.hid mM.sl.size
    have hcap1 : N ≤ cM := HCAP.out.2.1
    have hcap2 : cM ≤ 9223372036854775807 := HCAP.out.2.2
    clear bM mM
    go_upto_region 21 with fail
    go_cut [28] from 199 to 207 (fun v28 wx => ∃ ob qo co : Nat, v28 = .pointer (some ⟨ob, 0, none⟩) ∧ BoxN wx ob #[.int .i64 wd, .int .i64 hi, .slice (some ⟨qo, 0, none⟩) N co] 48 ∧ OwnF wx wZ.heap.size (.slice (some ⟨qo, 0, none⟩) N co) (msM.map wW) ∧ Below wZ.heap.size wZ wx ∧ qo ≠ ob)
    case first =>
      have ea : OwnF (wZ.alloc (.cells #[] 28)) wZ.heap.size (.slice (some ⟨wZ.heap.size, 0, none⟩) 0 0) [] := ⟨⟨rfl, .inr ⟨wZ.heap.size, 0, #[], rfl, Nat.le_refl _, heap_alloc_new wZ _, Nat.le_refl _, by unfold maxLen; omega, rfl, rfl⟩⟩, by simp⟩
      have eb : OwnF ((wZ.alloc (.cells #[.int .i64 0, .int .i64 0, .slice none 0 0] 48)).alloc (.cells #[] 28)) (wZ.heap.size + 1) (.slice (some ⟨wZ.heap.size + 1, 0, none⟩) 0 0) [] := by
        have h := (show OwnF ((wZ.alloc (.cells #[.int .i64 0, .int .i64 0, .slice none 0 0] 48)).alloc (.cells #[] 28)) (wZ.alloc (.cells #[.int .i64 0, .int .i64 0, .slice none 0 0] 48)).heap.size (.slice (some ⟨(wZ.alloc (.cells #[.int .i64 0, .int .i64 0, .slice none 0 0] 48)).heap.size, 0, none⟩) 0 0) [] from ⟨⟨rfl, .inr ⟨_, 0, #[], rfl, Nat.le_refl _, heap_alloc_new _ _, Nat.le_refl _, by unfold maxLen; omega, rfl, rfl⟩⟩, by simp⟩)
        rw [show (wZ.alloc (.cells #[.int .i64 0, .int .i64 0, .slice none 0 0] 48)).heap.size = wZ.heap.size + 1 by simp] at h
        exact h
      have w1 : OwnF (wZ.alloc (.cells #[] 28)).drew wZ.heap.size (.slice (some ⟨wZ.heap.size, 0, none⟩) 0 0) [] := ea.drewN 1
      have w2_ : OwnF ((wZ.alloc (.cells #[] 28)).alloc (.cells #[.int .i64 0, .int .i64 0, .slice none 0 0] 48)).drew wZ.heap.size (.slice (some ⟨wZ.heap.size, 0, none⟩) 0 0) [] := (ea.below (alb1_ _ _)).drewN 1
      have w3_ : OwnF ((wZ.alloc (.cells #[.int .i64 0, .int .i64 0, .slice none 0 0] 48)).alloc (.cells #[] 28)).drew (wZ.heap.size + 1) (.slice (some ⟨wZ.heap.size + 1, 0, none⟩) 0 0) [] := eb.drewN 1
      have hz0_ : Below wZ.heap.size wZ wZ.drew := below_drewN (Below.refl _ _) 1
      have ha_ : Below wZ.heap.size wZ (wZ.alloc (.cells #[] 28)) := alb1_ _ _
      have hr_ : Below wZ.heap.size wZ (wZ.alloc (.cells #[.int .i64 0, .int .i64 0, .slice none 0 0] 48)) := alb1_ _ _
      have had : Below wZ.heap.size wZ (wZ.alloc (.cells #[] 28)).drew := below_drewN ha_ 1
      have hrd_ : Below wZ.heap.size wZ (wZ.alloc (.cells #[.int .i64 0, .int .i64 0, .slice none 0 0] 48)).drew := below_drewN hr_ 1
      have h2_ : Below wZ.heap.size wZ ((wZ.alloc (.cells #[] 28)).alloc (.cells #[.int .i64 0, .int .i64 0, .slice none 0 0] 48)).drew := below_drewN (ha_.alloc ha_.size _) 1
      have h3_ : Below wZ.heap.size wZ ((wZ.alloc (.cells #[.int .i64 0, .int .i64 0, .slice none 0 0] 48)).alloc (.cells #[] 28)).drew := below_drewN (hr_.alloc hr_.size _) 1
      have x2_ : BoxN ((wZ.alloc (.cells #[] 28)).alloc (.cells #[.int .i64 0, .int .i64 0, .slice none 0 0] 48)).drew (wZ.heap.size + 1) #[.int .i64 0, .int .i64 0, .slice none 0 0] 48 := by
        have h := (BoxN.last (wZ.alloc (.cells #[] 28)) #[.int .i64 0, .int .i64 0, .slice none 0 0] 48).drewN 1
        rw [show (wZ.alloc (.cells #[] 28)).heap.size = wZ.heap.size + 1 by simp] at h
        exact h
      have x3_ : BoxN ((wZ.alloc (.cells #[.int .i64 0, .int .i64 0, .slice none 0 0] 48)).alloc (.cells #[] 28)).drew wZ.heap.size #[.int .i64 0, .int .i64 0, .slice none 0 0] 48 := ((BoxN.last wZ #[.int .i64 0, .int .i64 0, .slice none 0 0] 48).below (alb1_ _ _)).drewN 1
      have y1_ := NW.out _ had
      have y2_ := NW.out _ h2_
      have y3_ := NW.out _ h3_
      go_region_held3 (fun W => Below wZ.heap.size wZ W ∧ W.cell? ⟨oM, 0, none⟩ = some (.int .i64 wd) ∧ W.cell? ⟨oM, 1, none⟩ = some (.int .i64 hi) ∧ W.cell? ⟨oM, 2, none⟩ = some (.slice (some ⟨qM, 0, none⟩) N cM))
        (first | exact ⟨hz0_, ZM.out _ hz0_⟩ | exact ⟨ha_, ZM.out _ ha_⟩ | exact ⟨hr_, ZM.out _ hr_⟩ | exact ⟨had, ZM.out _ had⟩ | exact ⟨hrd_, ZM.out _ hrd_⟩ | exact ⟨h2_, ZM.out _ h2_⟩ | exact ⟨h3_, ZM.out _ h3_⟩ | exact ⟨hq0, ZM.out _ hq0⟩ | exact ⟨hq1, ZM.out _ hq1⟩ | exact ⟨hq2, ZM.out _ hq2⟩ | exact ⟨(hq0.alloc hq0.size _), ZM.out _ (hq0.alloc hq0.size _)⟩ | exact ⟨(((hq1.setCell (by simp) _).setCell (by simp) _).setCell (by simp) _), ZM.out _ (((hq1.setCell (by simp) _).setCell (by simp) _).setCell (by simp) _)⟩ | exact ⟨(((hq2.setCell (Nat.le_refl _) _).setCell (Nat.le_refl _) _).setCell (Nat.le_refl _) _), ZM.out _ (((hq2.setCell (Nat.le_refl _) _).setCell (Nat.le_refl _) _).setCell (Nat.le_refl _) _)⟩ | go_keep)
        ((first
          | (refine step_append_lies _ (by rfl) _ _ _ (by rfl) wZ.heap.size 28 i0 _ 1 4 Try.underlying24 hi0 hz0 hz1 hz2 rfl (by omega) (.slice (some ⟨wZ.heap.size, 0, none⟩) 0 0) 0 _ (by rfl) w1.1 ⟨qM, 0, none⟩ N cM ((msM.map wW).map (Value.float .f32)) (by rfl) (by simp [HLM.out]) y1_ (by simp [Value.oneCell']) (by omega) (by unfold maxLen; omega) (by omega) (by first | (simp; done) | (simp; omega)) (wZ.heap.size + 1) (by first | (simp; done) | (simp; omega)) ?_; intro gg capo wQ hown2 hgrow hat hlt2; have hq0 := had.grown hgrow (by first | (simp; done) | (simp; omega)) (fun k hk => by simp [Value.ownBlock] at hk; omega))
          | (refine step_append_lies _ (by rfl) _ _ _ (by rfl) wZ.heap.size 28 i0 _ 1 4 Try.underlying24 hi0 hz0 hz1 hz2 rfl (by omega) (.slice (some ⟨wZ.heap.size, 0, none⟩) 0 0) 0 _ (by rfl) w2_.1 ⟨qM, 0, none⟩ N cM ((msM.map wW).map (Value.float .f32)) (by rfl) (by simp [HLM.out]) y2_ (by simp [Value.oneCell']) (by omega) (by unfold maxLen; omega) (by omega) (by first | (simp; done) | (simp; omega)) (wZ.heap.size + 2) (by first | (simp; done) | (simp; omega)) ?_; intro gg capo wQ hown2 hgrow hat hlt2; have hq1 := h2_.grown hgrow (by first | (simp; done) | (simp; omega)) (fun k hk => by simp [Value.ownBlock] at hk; omega); have hx1 := x2_.grown hgrow (by first | (simp [Value.ownBlock]; done) | (simp [Value.ownBlock]; omega)); obtain ⟨q0, q1, q2, f0, f1, f2⟩ := hx1.three.cells)
          | (refine step_append_lies _ (by rfl) _ _ _ (by rfl) (wZ.heap.size + 1) 28 i0 _ 1 4 Try.underlying24 hi0 hz0 hz1 hz2 rfl (by omega) (.slice (some ⟨(wZ.heap.size + 1), 0, none⟩) 0 0) 0 _ (by rfl) w3_.1 ⟨qM, 0, none⟩ N cM ((msM.map wW).map (Value.float .f32)) (by rfl) (by simp [HLM.out]) y3_ (by simp [Value.oneCell']) (by omega) (by unfold maxLen; omega) (by omega) (by first | (simp; done) | (simp; omega)) (wZ.heap.size + 2) (by first | (simp; done) | (simp; omega)) ?_; intro gg capo wQ hown2 hgrow hat hlt2; have hq2 := h3_.grown hgrow (by first | (simp; done) | (simp; omega)) (fun k hk => by simp [Value.ownBlock] at hk; omega); have hx2 := x3_.grown hgrow (by first | (simp [Value.ownBlock]; done) | (simp [Value.ownBlock]; omega)); obtain ⟨q0, q1, q2, f0, f1, f2⟩ := hx2.three.cells)))
      all_goals
        go_wp2_with fail
        go_meet
        first
          | exact ⟨wQ.heap.size, gg, capo, rfl, BoxN.last wQ _ _, (ownQ hown2 HMAL.out HMM.out.sl.2 (Nat.le_refl _)).below (alb1_ wQ _), hq0.alloc hq0.size _, by have := (hown2.lt gg rfl).2; omega⟩
          | (have hqn : gg ≠ wZ.heap.size + 1 := (by rcases hat with e | e <;> first | omega | (simp [Value.ownBlock] at e; omega))
             refine ⟨wZ.heap.size + 1, gg, capo, rfl, ?_, ?_, ((hq1.setCell (by simp) _).setCell (by simp) _).setCell (by simp) _, hqn⟩
             · have := ((hx1.set 0 (.int .i64 wd)).set 1 (.int .i64 hi)).set 2 (.slice (some ⟨gg, 0, none⟩) N capo)
               simpa using this
             · exact ownSet3 (ownQ hown2 HMAL.out HMM.out.sl.2 (Nat.le_refl _)) hqn)
          | (have hqn : gg ≠ wZ.heap.size := (by have := (hown2.lt gg rfl).1; omega)
             refine ⟨wZ.heap.size, gg, capo, rfl, ?_, ?_, ((hq2.setCell (Nat.le_refl _) _).setCell (Nat.le_refl _) _).setCell (Nat.le_refl _) _, hqn⟩
             · have := ((hx2.set 0 (.int .i64 wd)).set 1 (.int .i64 hi)).set 2 (.slice (some ⟨gg, 0, none⟩) N capo)
               simpa using this
             · exact ownSet3 (ownQ hown2 HMAL.out HMM.out.sl.2 (by omega)) hqn)
    case rest =>
      obtain ⟨obO, qO, cO, rfl, bO, oO, bw, hneO⟩ := hcut
      have bM := HMB.out
      have mM := HMM.out
      have hqO := (oO.lt (k := qO) rfl).1
      have hltc : X + wd * Y < N := by rw [HN.out]; exact cell_lt hX hY
      have hlen := HMAL.out
      have cO1 := (oO.sl.at (X + wd * Y) (by rw [hlen]; exact hltc)).1
      rw [Nat.zero_add] at cO1
      have fO1 : wc.frozen? ⟨qO, X + wd * Y, none⟩ = false := World.ownsRow.frozenAt (n := N) (by have := oO.1; rw [hlen] at this; exact this) _
      obtain ⟨wold, hwold⟩ : ∃ wold, (msM.map wW).getD (X + wd * Y) 0 = wold := ⟨_, rfl⟩
      rw [hwold] at cO1
      have of := fq_ofInt (n := (D : Int)) (by omega)
      rw [wW_def] at of
      have hwDlt : wW D < 4294967296 := fq_lt (g := 0) (k := (D : Int)) (by omega)
      have hput := OwnF.put (w := wc) (B := wZ.heap.size) (g := qO) (n := N) (cap := cO) oO (X + wd * Y) hwDlt
      rw [set_words] at hput
      obtain ⟨wD, hwD⟩ : ∃ v, wW D = v := ⟨_, rfl⟩
      rw [hwD] at of hput
      have hmulY : wd * Y ≤ 4 * 3 := Nat.mul_le_mul v2 (by omega)
      have u1 : IntKind.i64.wrap ((wd : Int) * (Y : Int)) = (wd : Int) * (Y : Int) := IntWalk.i64_in _ (by rw [← Int.natCast_mul]; omega)
      have u2 : IntKind.i64.wrap ((X : Int) + (wd : Int) * (Y : Int)) = (X : Int) + (wd : Int) * (Y : Int) := IntWalk.i64_in _ (by rw [← Int.natCast_mul]; omega)
      have u3 : (0 : Int) ≤ (X : Int) + (wd : Int) * (Y : Int) := by rw [← Int.natCast_mul]; omega
      have u4 : (X : Int) + (wd : Int) * (Y : Int) < (N : Int) := by rw [← Int.natCast_mul]; omega
      have u5 : ((X : Int) + (wd : Int) * (Y : Int)).toNat = X + wd * Y := by rw [← Int.natCast_mul]; omega
      have HPUT := Lib.hid hput
      have HOO := Lib.hid oO
      have HBO := Lib.hid bO
      have HBW := Lib.hid bw
      obtain ⟨zO0, zO1, zO2, -, -, -⟩ := bO.three.cells
      obtain ⟨zA0, zA1, zA2, zA3, -, -, -, -⟩ := (bA.below bw).four
      clear hput oO bO bw hwold hlen ZM NW
      go_upto_region 23 with fail
      clear zO0 zO1 zO2 zA0 zA1 zA2 zA3 cO1 fO1 of
      generalize hwS : wc.setCell ⟨qO, X + wd * Y, none⟩ (.float .f32 wD) = wS at *
      have bw : Below wZ.heap.size wZ wS := by rw [← hwS]; exact HBW.out.setCell hqO _
      have bO : BoxN wS obO #[.int .i64 wd, .int .i64 hi, .slice (some ⟨qO, 0, none⟩) N cO] 48 := by rw [← hwS]; exact HBO.out.grown (grown_setCell _ _ _) (by simp; omega)
      have mO : Go.Proofs.Ytfhlpabbacopjaa.WM wS qO cO N (msM.set (X + wd * Y) D) dp := by
        have h := HPUT.out
        refine ⟨h.sl, (h.lt (k := qO) rfl).2, by rw [List.length_set, HLM.out], fun m hm => ?_⟩
        rcases List.mem_or_eq_of_mem_set hm with e | e
        · exact HBM.out m e
        · rw [e]; exact hD
      clear hwS HPUT HOO HBO HBW hb1
      replace bA := bA.below bw
      replace vA := vA.below bw
      replace bP := bP.below bw
      replace bM := bM.below bw
      replace mM := mM.below bw
      replace hbel := hbel.trans (bw.mono hbel.size)
      clear bw
      obtain ⟨m0, hm0⟩ : ∃ m0, m0 = mAt msM wd X Y := ⟨_, rfl⟩
      have hm0d : m0 < dp := by rw [hm0]; exact mM.mat HN.out hX hY
      have cM1 : ∀ W, Below wS.heap.size wS W → W.cell? ⟨qM, X + wd * Y, none⟩ = some (.float .f32 (wW m0)) := fun W hW => by
        have h := ((mM.below hW).sl.at (X + wd * Y) (by rw [List.length_map, mM.len]; exact hltc)).1
        rw [Nat.zero_add, wW_get (by rw [mM.len]; exact hltc)] at h
        rw [hm0]; exact h
      have hc := fq_int (k := (m0 : Int)) (by omega)
      rw [wW_def] at hc
      obtain ⟨wm0, hwm0⟩ : ∃ v, wW m0 = v := ⟨_, rfl⟩
      rw [hwm0] at hc
      simp only [hwm0] at cM1
      have CELLS : ∀ W, Below wS.heap.size wS W → (Below wS.heap.size wS W ∧ W.cell? ⟨oA, 0, none⟩ = some (.int .i64 wd) ∧ W.cell? ⟨oA, 1, none⟩ = some (.int .i64 hi) ∧ W.cell? ⟨oA, 2, none⟩ = some (.int .i64 dp) ∧ W.cell? ⟨oA, 3, none⟩ = some (.slice (some ⟨qA, 0, none⟩) Nv cA) ∧ W.cell? ⟨oP, 0, none⟩ = some (.float .f32 (fq 2 one)) ∧ W.cell? ⟨oP, 1, none⟩ = some (.float .f32 (fq 2 more)) ∧ W.cell? ⟨oM, 0, none⟩ = some (.int .i64 wd) ∧ W.cell? ⟨oM, 1, none⟩ = some (.int .i64 hi) ∧ W.cell? ⟨oM, 2, none⟩ = some (.slice (some ⟨qM, 0, none⟩) N cM) ∧ W.cell? ⟨qM, X + wd * Y, none⟩ = some (.float .f32 wm0)) := fun W hW => by
        obtain ⟨a0, a1, a2, a3, -, -, -, -⟩ := (bA.below hW).four
        obtain ⟨b0, b1, b2, -, -, -⟩ := (bM.below hW).three.cells
        have o := bP.below hW
        have o0 := o.cell 0
        have o1 := o.cell 1
        simp only [List.size_toArray, List.length_cons, List.length_nil, List.getElem?_toArray, List.getElem?_cons_zero, List.getElem?_cons_succ] at o0 o1
        exact ⟨hW, a0, a1, a2, a3, o0, o1, b0, b1, b2, cM1 W hW⟩
      have KL := Lib.hid (fun W (hW : Below wS.heap.size wS W) => localCost_ok W wd hi dp N Nv qA cA qM cM X Y m0 bsA own msM one more HC.out hX hY hm0d (vA.below hW).sl HLV.out (mM.below hW))
      have CELLS := Lib.hid CELLS
      have hA0 : Below wS.heap.size wS wS.drew := below_drewN (Below.refl _ _) 1
      have HM0 := Lib.hid hm0
      have SbA := Lib.hid bA
      have SbP := Lib.hid bP
      have SbM := Lib.hid bM
      have SvA := Lib.hid vA
      have SmM := Lib.hid mM
      have SbO := Lib.hid bO
      have SmO := Lib.hid mO
      clear cM1 hm0 hwm0 bA bP bM vA mM bO mO
      go_region_held3 (fun W => Below wS.heap.size wS W ∧ W.cell? ⟨oA, 0, none⟩ = some (.int .i64 wd) ∧ W.cell? ⟨oA, 1, none⟩ = some (.int .i64 hi) ∧ W.cell? ⟨oA, 2, none⟩ = some (.int .i64 dp) ∧ W.cell? ⟨oA, 3, none⟩ = some (.slice (some ⟨qA, 0, none⟩) Nv cA) ∧ W.cell? ⟨oP, 0, none⟩ = some (.float .f32 (fq 2 one)) ∧ W.cell? ⟨oP, 1, none⟩ = some (.float .f32 (fq 2 more)) ∧ W.cell? ⟨oM, 0, none⟩ = some (.int .i64 wd) ∧ W.cell? ⟨oM, 1, none⟩ = some (.int .i64 hi) ∧ W.cell? ⟨oM, 2, none⟩ = some (.slice (some ⟨qM, 0, none⟩) N cM) ∧ W.cell? ⟨qM, X + wd * Y, none⟩ = some (.float .f32 wm0))
        (first | exact CELLS.out _ hB1 | exact CELLS.out _ hA0 | go_keep)
        ((first
          | (go_at_call 29; with_reducible refine (KL.out _ hA0).mono ?_; rintro e wT ⟨rfl, bT⟩; have hB1 : Below wS.heap.size wS wT := hA0.trans (bT.mono hA0.size); clear bT)))
      clear u1 u2 u3 u4 u5 hc
      have bA := SbA.out
      have bP := SbP.out
      have bM := SbM.out
      have vA := SvA.out
      have mM := SmM.out
      have bO := SbO.out
      have mO := SmO.out
      have bw := hB1
      clear SbA SbP SbM SvA SmM SbO SmO hB1 hA0 KL CELLS
      replace bA := bA.below bw
      replace vA := vA.below bw
      replace bP := bP.below bw
      replace bM := bM.below bw
      replace mM := mM.below bw
      replace bO := bO.below bw
      replace mO := mO.below bw
      replace hbel := hbel.trans (bw.mono hbel.size)
      clear bw
      obtain ⟨zA0, zA1, zA2, zA3, -, -, -, -⟩ := bA.four
      have zP0 := bP.cell 0
      have zP1 := bP.cell 1
      simp only [List.size_toArray, List.length_cons, List.length_nil, List.getElem?_toArray, List.getElem?_cons_zero, List.getElem?_cons_succ] at zP0 zP1
      obtain ⟨zM0, zM1, zM2, -, -, -⟩ := bM.three.cells
      go_wp2_with fail
      clear zA0 zA1 zA2 zA3 zP0 zP1 zM0 zM1 zM2
      refine (localCost_ok _ wd hi dp N Nv qA cA qM cM X Y D bsA own msM one more HC.out hX hY hD vA.sl HLV.out mM).mono ?_
      rintro e wL ⟨rfl, bw⟩
      replace bA := bA.below bw
      replace vA := vA.below bw
      replace bP := bP.below bw
      replace bM := bM.below bw
      replace mM := mM.below bw
      replace bO := bO.below bw
      replace mO := mO.below bw
      replace hbel := hbel.trans (bw.mono hbel.size)
      clear bw
      obtain ⟨zA0, zA1, zA2, zA3, -, -, -, -⟩ := bA.four
      have zP0 := bP.cell 0
      have zP1 := bP.cell 1
      simp only [List.size_toArray, List.length_cons, List.length_nil, List.getElem?_toArray, List.getElem?_cons_zero, List.getElem?_cons_succ] at zP0 zP1
      obtain ⟨zO0, zO1, zO2, -, -, -⟩ := bO.three.cells
      go_wp2_with fail
      clear zA0 zA1 zA2 zA3 zP0 zP1 zO0 zO1 zO2
      refine (mapCost_ok _ wd hi dp N Nv qA cA qO cO bsA own (msM.set (X + wd * Y) D) one more HC.out vA.sl HLV.out mO).mono ?_
      rintro e wQ ⟨rfl, bw⟩
      have cOc := costI_bd HC.out mO.len mO.bd
      replace hbel := hbel.trans (bw.mono hbel.size)
      clear bw bA vA bP bM mM bO mO
      have hset := cost_set (P := own) (ms := msM) (wd := wd) (hi := hi) (x0 := X) (y0 := Y) (d := D) (one := one) (more := more) (by rw [HLM.out, HN.out]) hX hY
      rw [← HM0.out] at hset
      have l1 := locI_bd msM HC.out hX hY hD
      have l2 := locI_bd msM HC.out hX hY hm0d
      have f1 := fq_sub (g := 2) (a := costI own (msM.set (X + wd * Y) D) wd hi one more) (b := costI own msM wd hi one more) (by omega) (by omega) (by omega)
      have f2 := fq_sub (g := 2) (a := locI own msM wd hi one more X Y D) (b := locI own msM wd hi one more X Y m0) (by omega) (by omega) (by omega)
      rw [hset] at f1
      have fe := eq32_fq (g := 2) (a := locI own msM wd hi one more X Y D - locI own msM wd hi one more X Y m0) (b := locI own msM wd hi one more X Y D - locI own msM wd hi one more X Y m0) (by omega) (by omega)
      rw [decide_eq_true rfl] at fe
      have HBE := Lib.hid hbel
      generalize fq 2 (locI own msM wd hi one more X Y D - locI own msM wd hi one more X Y m0) = fz at *
      generalize fq 2 (costI own (msM.set (X + wd * Y) D) wd hi one more) = fa at *
      generalize fq 2 (costI own msM wd hi one more) = fb at *
      generalize fq 2 (locI own msM wd hi one more X Y D) = fc at *
      generalize fq 2 (locI own msM wd hi one more X Y m0) = fd at *
      have r1 := fres_some f1
      have r2 := fdr_some f1
      have r3 := fres_some f2
      have r4 := fdr_some f2
      have hd0 : ∀ W : World, W.drewN 0 = W := fun _ => rfl
      clear hbel hset l1 l2 f1 f2 cOc
      go_wp2
      go_ret
      exact ⟨rfl, by first | exact HBE.out | exact below_drewN HBE.out _⟩

theorem fnImproved_walk (w : World) (a0 a1 : Option Addr) (l0 c0 l1 c1 : Nat) (z0 z1 : List Int)
    (r0 : (a0 = none ∧ l0 = 0 ∧ c0 = 0 ∧ z0 = []) ∨ ∃ x, a0 = some x ∧ l0 ≤ c0 ∧ c0 ≤ maxLen ∧ z0.length = c0 ∧ (∀ i, i < z0.length → w.cell? (x.add i) = some (.int .u8 (z0.getD i 0))) ∧ ∀ n ∈ z0, (Lit.int .u8 n).wf = true)
    (r1 : (a1 = none ∧ l1 = 0 ∧ c1 = 0 ∧ z1 = []) ∨ ∃ x, a1 = some x ∧ l1 ≤ c1 ∧ c1 ≤ maxLen ∧ z1.length = c1 ∧ (∀ i, i < z1.length → w.cell? (x.add i) = some (.int .u8 (z1.getD i 0))) ∧ ∀ n ∈ z1, (Lit.int .u8 n).wf = true) :
    Calls Try.prog 5 #[.slice a0 l0 c0, .slice a1 l1 c1] w fun e w' => e = .returned (.bool true) ∧ Below w.heap.size w w' := by
  by_cases h : l0 ≤ 48 ∧ l1 ≤ 48
  · exact fnImproved_short w a0 a1 l0 c0 l1 c1 h.1 h.2 (bytesIn_of_row r0 (by omega)) (bytesIn_of_row r1 (by omega))
  · exact fnImproved_long w a0 a1 l0 c0 l1 c1 (len_of_row r0) (len_of_row r1) h

end Go.Proofs.Ytfhlpabbacopjaa
