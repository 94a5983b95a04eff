/- The law of all ways: the walk of its code. No condition. -/
import Derived.Test.YtfhlpabbacopjaaJn
import Derived.Deep.CutRange
import Derived.Deep.RegionHeld3
import Derived.StillTactics
namespace Go.Proofs.Ytfhlpabbacopjaa
open Go.RowKit
set_option maxRecDepth 100000
set_option linter.unusedVariables false
set_option linter.unusedSimpArgs false

def ownOf (ks : List Int) (wd dp : Nat) : Int → Int → List Int := fun x y => (ks.drop (ic wd dp x.toNat y.toNat)).take dp
theorem own_qv {ks : List Int} {wd hi dp : Nat} (hl : ks.length = wd * hi * dp) : QV (ks.map (fq 2)) wd hi dp (ownOf ks wd dp) := by
  refine ⟨by simpa using hl, fun x y hx hy => ?_⟩
  have hle := ic_le (dp := dp) hx hy
  unfold ownOf
  simp only [Int.toNat_natCast]
  refine ⟨by rw [List.length_take, List.length_drop]; omega, fun d hd => ?_⟩
  rw [getD_map_fq 2 _ _ (by omega)]
  congr 1
  rw [List.getD_eq_getElem?_getD, List.getD_eq_getElem?_getD, List.getElem?_take, if_pos hd, List.getElem?_drop]
theorem own_bd {ks : List Int} {wd dp : Nat} (hb : ∀ k ∈ ks, 0 ≤ k ∧ k ≤ 16) (x y : Int) : ∀ k ∈ ownOf ks wd dp x y, 0 ≤ k ∧ k ≤ 16 := fun k hk => hb k (List.mem_of_mem_drop (List.mem_of_mem_take hk))
theorem own_cC {ks : List Int} {wd dp : Nat} (hb : ∀ k ∈ ks, 0 ≤ k ∧ k ≤ 16) (x y d : Nat) : 0 ≤ cC (ownOf ks wd dp) x y d ∧ cC (ownOf ks wd dp) x y d ≤ 100 := by
  unfold cC
  rw [List.getD_eq_getElem?_getD]
  cases e : (ownOf ks wd dp x y)[d]? with
  | none => exact ⟨Int.le_refl _, by decide⟩
  | some z => have := own_bd hb (x : Int) (y : Int) z (List.mem_of_getElem? e); exact ⟨by simpa using this.1, by show z ≤ 100; omega⟩
def qbS (wd hi dp : Nat) (P : Int → Int → List Int) : Prop := ∀ x y, insI x y wd hi → ∀ d, d < dp → ((P x y).getD d 0).natAbs ≤ 16777216
theorem wrap_divW (k wd : Nat) (h : k ≤ 1000000) : wrap64 ((k : Int) / (wd : Int)) = ((k / wd : Nat) : Int) := by
  rw [← Int.natCast_ediv]
  have := Nat.div_le_self k wd
  generalize k / wd = q at *
  unfold wrap64; omega
theorem wrap_modW (k wd : Nat) (h : k ≤ 1000000) : wrap64 ((k : Int) % (wd : Int)) = ((k % wd : Nat) : Int) ∧ ((k : Int) % (wd : Int)) = ((k % wd : Nat) : Int) := by
  rw [← Int.natCast_emod]
  have := Nat.mod_le k wd
  generalize k % wd = q at *
  exact ⟨by unfold wrap64; omega, rfl⟩
theorem OwnI.snocW {w2 : World} {B gg cap n : Nat} {ks : List Int} {k : Int} (h : w2.ownsRow B 2 1 (.slice (some ⟨gg, 0, none⟩) (n + 1) cap) (n + 1) (ks.map (Value.int .i64) ++ [.int .i64 k])) (hl : ks.length = n) : OwnI w2 B (.slice (some ⟨gg, 0, none⟩) (n + 1) cap) (ks ++ [k]) := by
  unfold OwnI
  rw [List.length_append, List.map_append, hl]
  exact h

theorem ixW {wd hi dp x y : Nat} (hx : x < wd) (hy : y < hi) (hw : wd ≤ 24) (hh : hi ≤ 24) (hd : dp ≤ 8) : ∃ m1 m3 : Nat, IntKind.i64.wrap ((wd : Int) * (y : Int)) = (m1 : Int) ∧ IntKind.i64.wrap (((x : Int) + (m1 : Int)) * (dp : Int)) = (m3 : Int) ∧ m3 = ic wd dp x y ∧ m1 ≤ 576 ∧ m3 + dp ≤ wd * hi * dp ∧ m3 ≤ 100000 := by
  have h1 := cell_lt hx hy
  have h2 : wd * hi ≤ 24 * 24 := Nat.mul_le_mul hw hh
  have h3 := ic_le (dp := dp) hx hy
  have h4 : wd * y ≤ 24 * 24 := Nat.mul_le_mul hw (by omega)
  have h5 : (x + wd * y) * dp ≤ 576 * 8 := Nat.mul_le_mul (by omega) hd
  refine ⟨wd * y, (x + wd * y) * dp, ?_, ?_, rfl, by omega, h3, by omega⟩
  · rw [← Int.natCast_mul]; exact IntWalk.i64_in _ (by omega)
  · rw [← Int.natCast_add, ← Int.natCast_mul]; exact IntWalk.i64_in _ (by omega)

theorem fnWays_long (w : World) (a0 a1 : Option Addr) (l0 c0 l1 c1 : Nat) (m0 : l0 ≤ 9223372036854775807) (m1 : l1 ≤ 9223372036854775807) (h : ¬ (l0 ≤ 48 ∧ l1 ≤ 48)) :
    Calls Try.prog 4 #[.slice a0 l0 c0, .slice a1 l1 c1] w fun e w' => e = .returned (.bool true) ∧ Below w.heap.size w w' := by
  go_enter Try.func4, Try.ntmps4
  go_wp2_with fail
  refine (r8Long_yes _ _ _ _ _ _ _ m0 m1 h).mono ?_
  rintro e w' ⟨rfl, rfl⟩
  go_wp2
  go_ret
  exact ⟨rfl, Below.refl _ _⟩

set_option maxHeartbeats 40000000 in
theorem fnWays_short (w : World) (a0 a1 : Option Addr) (l0 c0 l1 c1 : Nat) (h0 : l0 ≤ 48) (h1 : l1 ≤ 48) (hb0 : BytesIn w a0 l0) (hb1 : BytesIn w a1 l1) :
    Calls Try.prog 4 #[.slice a0 l0 c0, .slice a1 l1 c1] w fun e w' => e = .returned (.bool true) ∧ Below w.heap.size w w' := by
  go_enter Try.func4, Try.ntmps4
  go_wp2_with fail
  refine (r8Long_no _ _ _ _ _ _ _ h0 h1).mono ?_
  rintro e w' ⟨rfl, rfl⟩
  obtain ⟨i2, hi2, hy0, hy1, hy2⟩ := info_parts info_i64
  obtain ⟨i0, hi0, hz0, hz1, hz2⟩ := info_parts info_f32
  go_wp2_with fail
  refine (r8Volume_any _ _ _ _ hb0).mono ?_
  rintro e wA ⟨wd, hi, dp, qA, cA, ks, rfl, v1, v2, v3, v4, v5, v6, hkl, hown, hkb, bw⟩
  obtain ⟨Nv, hNv⟩ : ∃ Nv, Nv = wd * hi * dp := ⟨_, rfl⟩
  obtain ⟨N, hN⟩ : ∃ N, N = wd * hi := ⟨_, rfl⟩
  rw [hkl, ← hNv] at hown ⊢
  have hN12 : N ≤ 12 := by rw [hN]; exact Nat.mul_le_mul v2 v4
  have hN1 : 1 ≤ N := by rw [hN]; exact Nat.mul_pos (by omega) (by omega)
  have hNv48 : Nv ≤ 48 := by rw [hNv]; have := Nat.mul_le_mul (Nat.mul_le_mul v2 v4) v6; omega
  have vA : VQ wA wd hi dp qA cA Nv (ks.map (fq 2)) (ownOf ks wd dp) := ⟨hown.sl, (hown.lt (k := qA) rfl).2, own_qv hkl⟩
  have hvn : vVol wd hi dp Nv = true := by rw [hNv]; exact vVol_of v1 (by omega) v3 (by omega) (by have := Nat.mul_le_mul v2 v4; omega) v5 (by omega)
  have hvp : vPic wd hi N = true := by rw [hN]; exact vPic_of v1 (by omega) v3 (by omega) (by rw [← hN]; omega)
  have hcc := fun x y d => own_cC (wd := wd) (dp := dp) hkb x y d
  have hlv : (ks.map (fq 2)).length = wd * hi * dp := by rw [List.length_map, hkl]
  have hqq := own_qv (wd := wd) (hi := hi) (dp := dp) hkl
  have hbw : qbS wd hi dp (ownOf ks wd dp) := fun x y hxy d hd => by
    rw [List.getD_eq_getElem?_getD]
    cases e : (ownOf ks wd dp x y)[d]? with
    | none => decide
    | some z => have := own_bd hkb x y z (List.mem_of_getElem? e); show z.natAbs ≤ _; omega
  have hqb : ∀ x y, insI x y wd hi → qb2 (ownOf ks wd dp x y) := fun x y hxy k hk => by have := own_bd hkb x y k hk; omega
  generalize hown_ : ownOf ks wd dp = own at *
  generalize hbs_ : ks.map (fq 2) = bsA at *
  have HQQ := Lib.hid hqq
  have HBW := Lib.hid hbw
  have HQB := Lib.hid hqb
  have HCC := Lib.hid hcc
  have HLV := Lib.hid hlv
  have HVN := Lib.hid hvn
  have HVP := Lib.hid hvp
  have HN := Lib.hid hN
  have HNV := Lib.hid hNv
  have ha : Below wA.heap.size wA (wA.alloc (.cells #[.int .i64 wd, .int .i64 hi, .int .i64 dp, .slice (some ⟨qA, 0, none⟩) Nv cA] 26)) := (Below.refl _ _).alloc (Nat.le_refl _) _
  have bA := BoxN.last wA #[.int .i64 wd, .int .i64 hi, .int .i64 dp, .slice (some ⟨qA, 0, none⟩) Nv cA] 26
  replace vA := vA.below ha
  have hbel := bw.trans (ha.mono bw.size)
  replace hb1 := hb1.below hbel
  clear hown bw ha hvn hvp hkl hkb hb0 hN hNv hown_ hbs_ hcc hlv hqq hbw hqb
  go_wp2_with fail
  generalize hoA : wA.heap.size = oA at *
  generalize hwA : wA.alloc (.cells #[.int .i64 wd, .int .i64 hi, .int .i64 dp, .slice (some ⟨qA, 0, none⟩) Nv cA] 26) = WA at *
  clear hoA hwA
  refine (r8Prices_any _ _ _ _ hb1).mono ?_
  rintro e wP ⟨one, more, rfl, p1, p2, p3, bw⟩
  have hC : Cst own bsA wd hi dp N Nv one more := ⟨HVN.out, HVP.out, HQQ.out, fun x y d _ _ _ => HCC.out x y d, p1, p2, by omega⟩
  have HC := Lib.hid hC
  clear hC
  have ha : Below wP.heap.size wP (wP.alloc (.cells #[.float .f32 (fq 2 one), .float .f32 (fq 2 more)] 30)) := (Below.refl _ _).alloc (Nat.le_refl _) _
  have bP := BoxN.last wP #[.float .f32 (fq 2 one), .float .f32 (fq 2 more)] 30
  replace bA := (bA.below bw).below ha
  replace vA := (vA.below bw).below ha
  replace hb1 := (hb1.below bw).below ha
  replace hbel := (hbel.trans (bw.mono hbel.size)).trans (ha.mono (Nat.le_trans hbel.size bw.size))
  clear bw ha
  obtain ⟨zA0, zA1, zA2, zA3, -, -, -, -⟩ := bA.four
  go_wp2_with fail
  generalize hoP : wP.heap.size = oP at *
  generalize hwP : wP.alloc (.cells #[.float .f32 (fq 2 one), .float .f32 (fq 2 more)] 30) = WP at *
  clear hoP hwP
  clear zA0 zA1 zA2 zA3
  refine (r8At_any _ _ _ _ 1 hi (by omega) (by omega) (by omega) hb1).mono ?_
  rintro e wY ⟨x, rfl, x0, x1, rfl⟩
  obtain ⟨y, rfl⟩ := Int.eq_ofNat_of_zero_le x0
  have hy : y < hi := by omega
  clear x0 x1
  have HV1 := Lib.hid (show vVol wd hi dp (wd * hi * dp) = true by rw [← HNV.out]; exact HVN.out)
  have HQC := Lib.hid (show ∀ x y, insI x y wd hi → ∀ d, d < dp → 0 ≤ (own x y).getD d 0 ∧ (own x y).getD d 0 ≤ 100 from fun x y hxy d _ => by
    obtain ⟨x0, x1, y0, y1⟩ := hxy
    obtain ⟨x, rfl⟩ := Int.eq_ofNat_of_zero_le x0
    obtain ⟨y, rfl⟩ := Int.eq_ofNat_of_zero_le y0
    exact HCC.out x y d)
  obtain ⟨zA0, zA1, zA2, zA3, -, -, -, -⟩ := bA.four
  have zP0 := bP.cell 0
  have zP1 := bP.cell 1
  simp only [List.size_toArray, List.length_cons, List.length_nil, List.getElem?_toArray, List.getElem?_cons_zero, List.getElem?_cons_succ] at zP0 zP1
  go_wp2_with fail
  clear zA0 zA1 zA2 zA3 zP0 zP1
  refine (raw_vq 0 one more vA HV1.out HNV.out (by omega) HQC.out p1 p2 (by omega)).mono ?_
  rintro e wT ⟨qT, cT, bsT, PT_, rfl, vT, alT, lnT, bw⟩
  have HQQ2 := Lib.hid (show ∀ x y, insI x y wd hi → (own x y).length = dp from fun x y hxy => by
    obtain ⟨x0, x1, y0, y1⟩ := hxy
    obtain ⟨x, rfl⟩ := Int.eq_ofNat_of_zero_le x0
    obtain ⟨y, rfl⟩ := Int.eq_ofNat_of_zero_le y0
    exact (HQQ.out.2 x y (by omega) (by omega)).1)
  have HAT := Lib.hid (And.intro alT lnT)
  clear alT lnT
  have ha : Below wT.heap.size wT (wT.alloc (.cells #[.int .i64 wd, .int .i64 hi, .int .i64 dp, .slice (some ⟨qT, 0, none⟩) Nv cT] 26)) := (Below.refl _ _).alloc (Nat.le_refl _) _
  have bT := BoxN.last wT #[.int .i64 wd, .int .i64 hi, .int .i64 dp, .slice (some ⟨qT, 0, none⟩) Nv cT] 26
  replace vT := vT.below ha
  replace bA := (bA.below bw).below ha
  replace vA := (vA.below bw).below ha
  replace hb1 := (hb1.below bw).below ha
  replace bP := (bP.below bw).below ha
  replace hbel := (hbel.trans (bw.mono hbel.size)).trans (ha.mono (Nat.le_trans hbel.size bw.size))
  clear bw ha
  obtain ⟨zA0, zA1, zA2, zA3, -, -, -, -⟩ := bA.four
  have zP0 := bP.cell 0
  have zP1 := bP.cell 1
  simp only [List.size_toArray, List.length_cons, List.length_nil, List.getElem?_toArray, List.getElem?_cons_zero, List.getElem?_cons_succ] at zP0 zP1
  go_wp2_with fail
  generalize hoT : wT.heap.size = oT at *
  generalize hwT : wT.alloc (.cells #[.int .i64 wd, .int .i64 hi, .int .i64 dp, .slice (some ⟨qT, 0, none⟩) Nv cT] 26) = WT at *
  clear hoT hwT
  clear zA0 zA1 zA2 zA3 zP0 zP1
  refine (bothWays_ok _ wd hi dp qA cA Nv bsA own one more (by rw [HLV.out, HNV.out]) (vA.ok HV1.out) vA.qlt vA.qv HQC.out p1 p2 (by omega)).mono ?_
  rintro e wB ⟨qB, cB, bsB, PA_, PB_, rfl, vB, alA, alB, lnB, bw⟩
  have HAB := Lib.hid (And.intro alA (And.intro alB lnB))
  clear alA alB lnB
  have ha : Below wB.heap.size wB (wB.alloc (.cells #[.int .i64 wd, .int .i64 hi, .int .i64 dp, .slice (some ⟨qB, 0, none⟩) Nv cB] 26)) := (Below.refl _ _).alloc (Nat.le_refl _) _
  have bB := BoxN.last wB #[.int .i64 wd, .int .i64 hi, .int .i64 dp, .slice (some ⟨qB, 0, none⟩) Nv cB] 26
  replace vB := vB.below ha
  replace bA := (bA.below bw).below ha
  replace vA := (vA.below bw).below ha
  replace hb1 := (hb1.below bw).below ha
  replace bP := (bP.below bw).below ha
  replace bT := (bT.below bw).below ha
  replace vT := (vT.below bw).below ha
  replace hbel := (hbel.trans (bw.mono hbel.size)).trans (ha.mono (Nat.le_trans hbel.size bw.size))
  clear bw ha
  obtain ⟨zA0, zA1, zA2, zA3, -, -, -, -⟩ := bA.four
  have zP0 := bP.cell 0
  have zP1 := bP.cell 1
  simp only [List.size_toArray, List.length_cons, List.length_nil, List.getElem?_toArray, List.getElem?_cons_zero, List.getElem?_cons_succ] at zP0 zP1
  go_wp2_with fail
  generalize hoB : wB.heap.size = oB at *
  generalize hwB : wB.alloc (.cells #[.int .i64 wd, .int .i64 hi, .int .i64 dp, .slice (some ⟨qB, 0, none⟩) Nv cB] 26) = WB at *
  clear hoB hwB
  clear zA0 zA1 zA2 zA3 zP0 zP1
  refine (solveRow_ok _ wd hi dp N qA Nv cA y bsA own one more HC.out vA.sl HLV.out hy vA.qlt).mono ?_
  rintro e wS ⟨gS, cS, rfl, oS, bw⟩
  replace bA := bA.below bw
  replace vA := vA.below bw
  replace hb1 := hb1.below bw
  replace bP := bP.below bw
  replace bT := bT.below bw
  replace vT := vT.below bw
  replace bB := bB.below bw
  replace vB := vB.below bw
  replace hbel := hbel.trans (bw.mono hbel.size)
  clear bw
  clear hb1
  have KA := Lib.hid (fun W (hW : Below wS.heap.size wS W) => bA.below hW)
  have KV := Lib.hid (fun W (hW : Below wS.heap.size wS W) => vA.below hW)
  have KP := Lib.hid (fun W (hW : Below wS.heap.size wS W) => bP.below hW)
  have KT := Lib.hid (fun W (hW : Below wS.heap.size wS W) => bT.below hW)
  have LT := Lib.hid (fun W (hW : Below wS.heap.size wS W) => vT.below hW)
  have KB := Lib.hid (fun W (hW : Below wS.heap.size wS W) => bB.below hW)
  have LB := Lib.hid (fun W (hW : Below wS.heap.size wS W) => vB.below hW)
  have LS := Lib.hid (fun W (hW : Below wS.heap.size wS W) => oS.below hW)
  have LSZ := Lib.hid (oS.lt (k := gS) rfl)
  have HBEL := Lib.hid hbel
  have hsS := oS.len
  have hAL := alb1_ wS (.cells #[] 28)
  have stL := ownF_start wS (fun _ => (4000000 : Int))
  have HST := Lib.hid (And.intro stL hAL)
  have HMIL := Lib.hid (show fq 2 4000000 = 1232348160 by decide +kernel)
  obtain ⟨zA0, zA1, zA2, zA3, -, -, -, -⟩ := bA.four
  obtain ⟨zT0, zT1, zT2, zT3, -, -, -, -⟩ := bT.four
  obtain ⟨zB0, zB1, zB2, zB3, -, -, -, -⟩ := bB.four
  clear bA vA bP bT vT bB vB oS hbel stL hAL
  go_wp2_with fail
  clear zA0 zA1 zA2 zA3 zT0 zT1 zT2 zT3 zB0 zB1 zB2 zB3
  go_loopw [15, 16] (fun v15 v16 wr => ∃ d g c : Nat, v16 = .int .i64 d ∧ d ≤ dp ∧ v15 = .slice (some ⟨g, 0, none⟩) d c ∧ OwnF wr wS.heap.size (.slice (some ⟨g, 0, none⟩) d c) ((tabI d (fun _ => (4000000 : Int))).map (fq 2)) ∧ Below wS.heap.size wS wr) (fun _ v16 _ => dp - (intOf v16).toNat)
  case atStart => exact ⟨0, _, _, rfl, Nat.zero_le _, rfl, HST.out.1, HST.out.2⟩
  case round =>
    clear HST
    obtain ⟨d, g, c, rfl, hd, rfl, hown, hbq⟩ := hrel
    obtain ⟨zA0, zA1, zA2, zA3, -, -, -, -⟩ := (KA.out wr hbq).four
    have HOW := Lib.hid hown
    have HBQ := Lib.hid hbq
    by_cases hdl : d < dp
    · have hsz := hbq.size
      have how := hown.1
      rw [List.length_map, tabI_length] at how
      have hgl := (hown.lt (k := g) rfl).2
      clear hown hbq
      go_wp2_with (at_builtin; refine wpList_append_lies _ (by rfl) _ _ _ (by rfl) wS.heap.size 28 i0 _ 1 4 Try.underlying24 hi0 hz0 hz1 hz2 rfl (by omega) (.slice (some ⟨g, 0, none⟩) d c) d _ (by rfl) (World.ownsRow.alloc how _) ⟨wr.heap.size, 0, none⟩ 1 1 [.float .f32 1232348160] (by rfl) (by rfl) (cell_one_new _ _ _) (by simp [Value.oneCell']) (by omega) (by unfold maxLen; omega) (by omega) (by simp; omega) (wr.heap.size + 1) (by simp) ?_; intro gg cap wz hown2 hgrow hat hlt2)
      go_roundw
      case rel =>
        refine ⟨d + 1, gg, cap, by go_num, by omega, rfl, ?_, (HBQ.out.alloc hsz (.cells #[.float .f32 1232348160] 28)).grown hgrow (by simp; omega) (fun k hk => (HOW.out.lt hk).1)⟩
        rw [tabI_succ]
        exact own_snoc HMIL.out hown2 (tabI_length _ _) (fun k hk => by
          obtain ⟨j, hj, rfl⟩ := mem_tabI hk
          decide) (by decide)
      case measure => simp [intOf]; omega
    · obtain rfl : dp = d := by omega
      obtain ⟨wE, hwE⟩ : ∃ wE, wE = wr := ⟨_, rfl⟩
      subst hwE
      have hgl := (hown.lt (k := g) rfl)
      clear hown hbq
      go_wp2_with fail
      clear zA0 zA1 zA2 zA3
      go_loopw [17, 18] (fun v17 v18 wr => ∃ x pw : Nat, v18 = .int .i64 x ∧ x ≤ wd ∧ v17 = .int .i64 pw ∧ pw = dp ^ x ∧ wr = wE) (fun _ v18 _ => wd - (intOf v18).toNat)
      case atStart => exact ⟨0, 1, rfl, Nat.zero_le _, rfl, rfl, rfl⟩
      case round =>
        obtain ⟨x, pw, rfl, hx, rfl, hpw, rfl⟩ := hrel
        obtain ⟨zA0, zA1, zA2, zA3, -, -, -, -⟩ := (KA.out wr HBQ.out).four
        have HPW := Lib.hid hpw
        have hp4 : pw ≤ 256 := by
          rw [hpw]
          exact Nat.le_trans (Nat.pow_le_pow_left v6 x) (Nat.le_trans (Nat.pow_le_pow_right (by decide) (Nat.le_trans hx v2)) (by decide))
        clear hpw
        by_cases hxl : x < wd
        · obtain ⟨pn, hpn⟩ : ∃ pn, pn = pw * dp := ⟨_, rfl⟩
          have hn4 : pn ≤ 256 * 4 := by rw [hpn]; exact Nat.mul_le_mul hp4 v6
          have hm : IntKind.i64.wrap ((pw : Int) * (dp : Int)) = (pn : Int) := by rw [hpn, Int.natCast_mul]; exact IntWalk.i64_in _ (by rw [← Int.natCast_mul, ← hpn]; omega)
          have HPN := Lib.hid hpn
          clear hpn
          go_wp2_with fail
          go_roundw
          case rel => exact ⟨x + 1, pn, by go_num, by omega, by go_num, by rw [HPN.out, HPW.out, Nat.pow_succ], trivial⟩
          case measure => simp [intOf]; omega
        · obtain rfl : wd = x := by omega
          obtain ⟨cnt, hcnt⟩ : ∃ cnt, cnt = pw := ⟨_, rfl⟩
          subst hcnt
          have hcL := HOW.out.sl.size
          have HGB : ∀ k, 0 ≤ rowC (CY own y) (prI one more) (dig dp k) (wd - 1) ∧ rowC (CY own y) (prI one more) (dig dp k) (wd - 1) ≤ 5000 := fun k => by
            have := rowC_bd (C := CY own y) (pr := prI one more) (v := dig dp k) (n := wd - 1) (fun x hx => HCC.out x y _) (fun a b => by have := prI_bd p1 p2 a b; omega) (wd - 1) (Nat.le_refl _)
            omega
          have HGB := Lib.hid HGB
          have hdI : ∀ d, d < dp → (d : Int) < dp := fun d h => by omega
          have hEE := HBQ.out
          have start : OwnF wr wS.heap.size (.slice (some ⟨g, 0, none⟩) dp c) ((tabI dp (leastK (fun k => rowC (CY own y) (prI one more) (dig dp k) (wd - 1)) (fun k => dig dp k (wd - 1)) 0)).map (fq 2)) := HOW.out
          have HSTA := Lib.hid (And.intro start hEE)
          clear start hEE
          go_wp2_with fail
          clear zA0 zA1 zA2 zA3
          go_loopw [19] (fun v19 wz => ∃ k : Nat, v19 = .int .i64 k ∧ k ≤ cnt ∧ OwnF wz wS.heap.size (.slice (some ⟨g, 0, none⟩) dp c) ((tabI dp (leastK (fun k => rowC (CY own y) (prI one more) (dig dp k) (wd - 1)) (fun k => dig dp k (wd - 1)) k)).map (fq 2)) ∧ Below wS.heap.size wS wz) (fun v19 _ => cnt - (intOf v19).toNat)
          case atStart => exact ⟨0, rfl, Nat.zero_le _, HSTA.out.1, HSTA.out.2⟩
          case round =>
            clear HSTA
            obtain ⟨k, rfl, hk, hown, hbz⟩ := hrel
            have HOZ := Lib.hid hown
            have HBZ := Lib.hid hbz
            by_cases hkl : k < cnt
            · obtain ⟨wk, hwk⟩ : ∃ wk, wk = wr := ⟨_, rfl⟩
              subst hwk
              have st : OwnI (wk.alloc (.cells #[] 2)) wk.heap.size (.slice (some ⟨wk.heap.size, 0, none⟩) 0 0) (tabI 0 fun i => (dig dp k i : Int)) :=
                ⟨rfl, .inr ⟨wk.heap.size, 0, #[], rfl, Nat.le_refl _, heap_alloc_new wk _, Nat.le_refl _, by unfold maxLen; omega, rfl, rfl⟩⟩
              have HST := Lib.hid (And.intro st (alb1_ wk (.cells #[] 2)))
              have hk0 : k = k / dp ^ 0 := by simp
              have HK0 := Lib.hid hk0
              clear st hown hbz hk0
              go_wp2_with fail
              go_loopw [20, 21, 22] (fun v20 v21 v22 wq => ∃ x g2 c2 rs : Nat, v22 = .int .i64 x ∧ x ≤ wd ∧ v21 = .int .i64 rs ∧ rs = k / dp ^ x ∧ v20 = .slice (some ⟨g2, 0, none⟩) x c2 ∧ OwnI wq wk.heap.size (.slice (some ⟨g2, 0, none⟩) x c2) (tabI x fun i => (dig dp k i : Int)) ∧ Below wk.heap.size wk wq) (fun _ _ v22 _ => wd - (intOf v22).toNat)
              case atStart => exact ⟨0, _, _, k, rfl, Nat.zero_le _, rfl, HK0.out, rfl, HST.out.1, HST.out.2⟩
              case round =>
                clear HST HK0
                obtain ⟨x, g2, c2, rs, rfl, hx, rfl, hrs, rfl, hown2, hbq2⟩ := hrel
                have hbS := HBZ.out.trans (hbq2.mono HBZ.out.size)
                obtain ⟨zA0, zA1, zA2, zA3, -, -, -, -⟩ := (KA.out wr hbS).four
                have HO2 := Lib.hid hown2
                have HB2 := Lib.hid hbq2
                have HBS := Lib.hid hbS
                have HRS := Lib.hid hrs
                have hrb : rs ≤ 256 := by rw [hrs]; exact Nat.le_trans (Nat.div_le_self _ _) (by omega)
                clear hown2 hbq2 hbS hrs
                by_cases hxl : x < wd
                · obtain ⟨rm, hrm⟩ : ∃ rm, rm = rs % dp := ⟨_, rfl⟩
                  obtain ⟨rq, hrq⟩ : ∃ rq, rq = rs / dp := ⟨_, rfl⟩
                  have m1 := wrap_modW rs dp (by omega)
                  have m2 := wrap_divW rs dp (by omega)
                  rw [← hrm] at m1
                  rw [← hrq] at m2
                  obtain ⟨m3, m4⟩ := m1
                  have dp0 : ¬ dp = 0 := by omega
                  have dpI : ¬ (dp : Int) = 0 := by omega
                  have HRM := Lib.hid hrm
                  have HRQ := Lib.hid hrq
                  have how := HO2.out
                  unfold OwnI at how
                  rw [tabI_length] at how
                  have hgl2 := (HO2.out.lt (k := g2) rfl).2
                  have hsz2 := HB2.out.size
                  clear hrm hrq
                  go_wp2_with (at_builtin; refine wpList_append_lies _ (by rfl) _ _ _ (by rfl) wk.heap.size 2 i2 _ 1 8 Try.underlying42 hi2 hy0 hy1 hy2 rfl (by omega) (.slice (some ⟨g2, 0, none⟩) x c2) x _ (by rfl) (World.ownsRow.alloc how _) ⟨wr.heap.size, 0, none⟩ 1 1 [.int .i64 rm] (by rfl) (by rfl) (cell_one_new _ _ _) (by simp [Value.oneCell']) (by omega) (by unfold maxLen; omega) (by omega) (by simp; omega) (wr.heap.size + 1) (by simp) ?_; intro gg cap wz hown3 hgrow hat hlt2; have zA2 : wz.cell? ⟨oA, 2, none⟩ = some (.int .i64 dp) := ((KA.out wz ((HBS.out.alloc (by have := HBS.out.size; omega) (.cells #[.int .i64 rm] 2)).grown hgrow (by have := HBS.out.size; simp; omega) (fun k hk => by have := (HO2.out.lt hk).1; have := HBZ.out.size; omega))).four).2.2.1)
                  go_roundw
                  case rel =>
                    have hag : Below wk.heap.size wk wz := (HB2.out.alloc hsz2 (.cells #[.int .i64 rm] 2)).grown hgrow (by simp; omega) (fun k hk => (HO2.out.lt hk).1)
                    refine ⟨x + 1, gg, cap, rq, by go_num, by omega, by rw [m2], by rw [HRQ.out, HRS.out, Nat.pow_succ, Nat.div_div_eq_div_mul], rfl, ?_, hag⟩
                    rw [tabI_succ]
                    have e : (dig dp k x : Int) = rm := by rw [HRM.out, HRS.out]; rfl
                    rw [e]
                    exact OwnI.snocW hown3 (tabI_length _ _)
                  case measure => simp [intOf]; omega
                · obtain rfl : wd = x := by omega
                  obtain ⟨wq, hwq⟩ : ∃ wq, wq = wr := ⟨_, rfl⟩
                  subst hwq
                  have hvsl : ((List.range wd).map (dig dp k)).length = wd := by simp
                  have hvg : ∀ i, i < wd → ((List.range wd).map (dig dp k)).getD i 0 = dig dp k i := fun i hi_ => by
                    rw [List.getD_eq_getElem?_getD, List.getElem?_map, List.getElem?_range hi_]; rfl
                  have hrow : RowAt wq g2 0 ((List.range wd).map (dig dp k)) := fun i hi_ => by
                    rw [hvsl] at hi_
                    have h := HO2.out.cellAt i (by rw [tabI_length]; exact hi_)
                    rw [tabI_get hi_] at h
                    rw [Nat.zero_add, hvg i hi_]
                    exact h
                  have hgl2 := (HO2.out.lt (k := g2) rfl).2
                  have vA := KV.out wq HBS.out
                  have KRC := rowCost_ok wq wd hi dp N qA Nv cA y g2 c2 bsA own one more _ HC.out vA.sl HLV.out hy vA.qlt hrow hgl2 hvsl (fun i hi_ => by rw [hvg i hi_]; exact dig_lt v5)
                  rw [rowC_congr (CY own y) (prI one more) (u := dig dp k) (wd - 1) (fun i hi_ => hvg i (by omega))] at KRC
                  have KRC := Lib.hid KRC
                  have bP := KP.out wq HBS.out
                  have zP0 := bP.cell 0
                  have zP1 := bP.cell 1
                  simp only [List.size_toArray, List.length_cons, List.length_nil, List.getElem?_toArray, List.getElem?_cons_zero, List.getElem?_cons_succ] at zP0 zP1
                  have hclast := HO2.out.cellAt (wd - 1) (by rw [tabI_length]; omega)
                  rw [tabI_get (by omega)] at hclast
                  have HCL := Lib.hid hclast
                  have hge : solC own one more dp wd y ≤ rowC (CY own y) (prI one more) (dig dp k) (wd - 1) := sol_least v5 (dig dp k) (fun i _ => dig_lt v5)
                  have hgb := HGB.out k
                  have hsb : 0 ≤ solC own one more dp wd y := by rw [← sol_cost v5]; exact (rowC_bd (C := CY own y) (pr := prI one more) (n := wd - 1) (fun x hx => HCC.out x y _) (fun a b => by have := prI_bd p1 p2 a b; omega) (wd - 1) (Nat.le_refl _)).1
                  have tlt : lt32 (fq 2 (rowC (CY own y) (prI one more) (dig dp k) (wd - 1))) (fq 2 (solC own one more dp wd y)) = false := by rw [lt32_fq (by omega) (by omega)]; exact decide_eq_false (by omega)
                  have hdl := dig_lt (dp := dp) (k := k) (i := wd - 1) v5
                  have hlk := leastK_bd (cost := fun k => rowC (CY own y) (prI one more) (dig dp k) (wd - 1)) (last := fun k => dig dp k (wd - 1)) (d := dig dp k (wd - 1)) (fun k => (HGB.out k).1) k
                  have mn := fminW_q (a := leastK (fun k => rowC (CY own y) (prI one more) (dig dp k) (wd - 1)) (fun k => dig dp k (wd - 1)) k (dig dp k (wd - 1))) (b := rowC (CY own y) (prI one more) (dig dp k) (wd - 1)) (by omega) (by omega)
                  have hst : ∀ d, leastK (fun k => rowC (CY own y) (prI one more) (dig dp k) (wd - 1)) (fun k => dig dp k (wd - 1)) (k + 1) d = if dig dp k (wd - 1) = d then min (leastK (fun k => rowC (CY own y) (prI one more) (dig dp k) (wd - 1)) (fun k => dig dp k (wd - 1)) k d) (rowC (CY own y) (prI one more) (dig dp k) (wd - 1)) else leastK (fun k => rowC (CY own y) (prI one more) (dig dp k) (wd - 1)) (fun k => dig dp k (wd - 1)) k d := fun d => rfl
                  have HST := Lib.hid hst
                  obtain ⟨vk, hvk⟩ : ∃ v, fq 2 (rowC (CY own y) (prI one more) (dig dp k) (wd - 1)) = v := ⟨_, rfl⟩
                  obtain ⟨vl, hvl⟩ : ∃ v, fq 2 (leastK (fun k => rowC (CY own y) (prI one more) (dig dp k) (wd - 1)) (fun k => dig dp k (wd - 1)) k (dig dp k (wd - 1))) = v := ⟨_, rfl⟩
                  obtain ⟨vn, hvn⟩ : ∃ v, fq 2 (min (leastK (fun k => rowC (CY own y) (prI one more) (dig dp k) (wd - 1)) (fun k => dig dp k (wd - 1)) k (dig dp k (wd - 1))) (rowC (CY own y) (prI one more) (dig dp k) (wd - 1))) = v := ⟨_, rfl⟩
                  have hvnl : vn < 4294967296 := by rw [← hvn]; exact fq_lt (by omega)
                  rw [hvk] at tlt mn KRC
                  rw [hvl, hvn] at mn
                  have HVL := Lib.hid hvl
                  have HVN := Lib.hid (And.intro hvn hvnl)
                  clear hvsl hvg hrow vA bP hclast hge hgb hsb hlk hst hvk hvl hvn hvnl
                  go_wp2_with fail
                  clear zA0 zA1 zA2 zA3 zP0 zP1
                  (with_reducible refine KRC.out.mono ?_)
                  rintro e' wX ⟨rfl, hbX⟩
                  have hbqX := HB2.out.trans (hbX.mono HB2.out.size)
                  have hbkX := HBZ.out.trans (hbqX.mono HBZ.out.size)
                  have HBKX := Lib.hid hbkX
                  obtain ⟨zA0, zA1, zA2, zA3, -, -, -, -⟩ := (KA.out wX hbkX).four
                  have HOX := Lib.hid (HOZ.out.below hbqX)
                  have hcl := (hbX.cell (p := ⟨g2, wd - 1, none⟩) hgl2).trans HCL.out
                  obtain ⟨dl, hdle⟩ : ∃ dl, dig dp k (wd - 1) = dl := ⟨_, rfl⟩
                  rw [hdle] at hcl hdl
                  have cls := tab_cell HOX.out.sl hdl
                  have hvl2 := HVL.out
                  rw [hdle] at hvl2
                  rw [hvl2] at cls
                  have HDL := Lib.hid hdle
                  have frz : wX.frozen? ⟨g, dl, none⟩ = false := World.ownsRow.frozenAt (n := dp) (by have := HOX.out.1; rw [List.length_map, tabI_length] at this; exact this) dl
                  have dlI : (dl : Int) < dp := by omega
                  obtain ⟨w1_, hw1_⟩ : ∃ u, u = wd - 1 := ⟨_, rfl⟩
                  have hwI : (wd : Int) - 1 = (w1_ : Int) := by omega
                  have hwL : (w1_ : Int) < wd := by omega
                  rw [← hw1_] at hcl
                  clear hbX hbqX hbkX hdle hvl2 hw1_
                  go_wp2_with fail
                  go_roundw
                  case rel =>
                    have hgS := (HOX.out.lt (k := g) rfl).1
                    refine ⟨k + 1, by go_num, by omega, ?_, HBKX.out.setCell (p := ⟨g, dl, none⟩) hgS _⟩
                    have hput := HOX.out.put dl HVN.out.2
                    have e : (tabI dp (leastK (fun k => rowC (CY own y) (prI one more) (dig dp k) (wd - 1)) (fun k => dig dp k (wd - 1)) (k + 1))).map (fq 2) = ((tabI dp (leastK (fun k => rowC (CY own y) (prI one more) (dig dp k) (wd - 1)) (fun k => dig dp k (wd - 1)) k)).map (fq 2)).set dl vn := by
                      refine List.ext_getElem (by simp [tabI]) fun i h1 h2 => ?_
                      rw [List.length_map, tabI_length] at h1
                      rw [List.getElem_set, List.getElem_map]
                      have t1 : ∀ (F : Nat → Int) (h : i < (tabI dp F).length), (tabI dp F)[i] = F i := fun F h => by simp [tabI]
                      rw [t1, HST.out i, HDL.out]
                      by_cases q : dl = i
                      · rw [if_pos q, if_pos q, ← HVN.out.1, HDL.out, q]
                      · rw [if_neg q, if_neg q, List.getElem_map, t1]
                    rw [e]
                    exact hput
                  case measure => simp [intOf]; omega
            · obtain rfl : cnt = k := by omega
              obtain ⟨wz, hwz⟩ : ∃ wz, wz = wr := ⟨_, rfl⟩
              subst hwz
              have oS := LS.out wz hbz
              have hvsl : ((List.range wd).map (solR own one more dp wd y)).length = wd := by simp
              have hvg : ∀ i, i < wd → ((List.range wd).map (solR own one more dp wd y)).getD i 0 = solR own one more dp wd y i := fun i hi_ => by
                rw [List.getD_eq_getElem?_getD, List.getElem?_map, List.getElem?_range hi_]; rfl
              have hrow : RowAt wz gS 0 ((List.range wd).map (solR own one more dp wd y)) := fun i hi_ => by
                rw [hvsl] at hi_
                have h := oS.cellAt i (by rw [tabI_length]; exact hi_)
                rw [tabI_get hi_] at h
                rw [Nat.zero_add, hvg i hi_]
                exact h
              have vA := KV.out wz hbz
              have KRC := rowCost_ok wz wd hi dp N qA Nv cA y gS cS bsA own one more _ HC.out vA.sl HLV.out hy vA.qlt hrow (oS.lt (k := gS) rfl).2 hvsl (fun i hi_ => by rw [hvg i hi_]; exact sol_lt v5 i)
              rw [rowC_congr (CY own y) (prI one more) (u := solR own one more dp wd y) (wd - 1) (fun i hi_ => hvg i (by omega)), sol_cost v5] at KRC
              have hsb : 0 ≤ solC own one more dp wd y ∧ solC own one more dp wd y ≤ 5000 := by
                rw [← sol_cost v5]
                have := rowC_bd (C := CY own y) (pr := prI one more) (v := solR own one more dp wd y) (n := wd - 1) (fun x hx => HCC.out x y _) (fun a b => by have := prI_bd p1 p2 a b; omega) (wd - 1) (Nat.le_refl _)
                omega
              have HSB := Lib.hid hsb
              have ee : eq32 (fq 2 (solC own one more dp wd y)) (fq 2 (solC own one more dp wd y)) = true := by rw [eq32_fq (by omega) (by omega)]; exact decide_eq_true rfl
              obtain ⟨vc, hvc⟩ : ∃ v, fq 2 (solC own one more dp wd y) = v := ⟨_, rfl⟩
              have KRC := Lib.hid KRC
              have bP := KP.out wz hbz
              have zP0 := bP.cell 0
              have zP1 := bP.cell 1
              simp only [List.size_toArray, List.length_cons, List.length_nil, List.getElem?_toArray, List.getElem?_cons_zero, List.getElem?_cons_succ] at zP0 zP1
              obtain ⟨zA0, zA1, zA2, zA3, -, -, -, -⟩ := (KA.out wz hbz).four
              clear vA oS hvsl hvg hrow bP hsb hown hbz
              go_wp2_with fail
              clear zA0 zA1 zA2 zA3 zP0 zP1
              (with_reducible refine KRC.out.mono ?_)
              rintro e' wX ⟨rfl, hbX⟩
              have hbS := HBZ.out.trans (hbX.mono HBZ.out.size)
              have HBS := Lib.hid hbS
              have HOX := Lib.hid (HOZ.out.below hbX)
              have hXX := Below.refl wX.heap.size wX
              obtain ⟨zA0, zA1, zA2, zA3, -, -, -, -⟩ := (KA.out wX hbS).four
              rw [hvc] at ee ⊢
              have HVC := Lib.hid hvc
              clear hbX hbS hvc KRC
              go_wp2_with fail
              clear zA0 zA1 zA2 zA3
              go_loopw [28] (fun v28 wq => ∃ d : Nat, v28 = .int .i64 d ∧ d ≤ dp ∧ Below wX.heap.size wX wq) (fun v28 _ => dp - (intOf v28).toNat)
              case atStart => exact ⟨0, rfl, Nat.zero_le _, hXX⟩
              case round =>
                clear hXX
                obtain ⟨d, rfl, hd, hbq⟩ := hrel
                have hbS := HBS.out.trans (hbq.mono HBS.out.size)
                have HBQ2 := Lib.hid hbq
                obtain ⟨zA0, zA1, zA2, zA3, -, -, -, -⟩ := (KA.out wr hbS).four
                by_cases hdl : d < dp
                · obtain ⟨zT0, zT1, zT2, zT3, -, -, -, -⟩ := (KT.out wr hbS).four
                  obtain ⟨m1, m3, f1, f2, f3, f4, f5, f6⟩ := ixW (wd := wd) (hi := hi) (dp := dp) (x := wd - 1) (y := y) (by omega) hy (by omega) (by omega) (by omega)
                  have vT := LT.out wr hbS
                  have cT1 := (vT.sl.at (m3 + d) (by rw [vT.len, HNV.out]; omega)).1
                  rw [f3, (vT.qv.2 (wd - 1) y (by omega) hy).2 d hdl, raw_right HAT.out.1 p1 p2 v5 (fun x y h => HQQ2.out x y h) HAT.out.2 hy (wd - 1) (by omega) d hdl, ← f3, Nat.zero_add] at cT1
                  have cL1 := tab_cell (HOX.out.below hbq).sl hdl
                  have hgb := dpG_bd (C := CY own y) (pr := prI one more) (dp := dp) (wd := wd) v5 (fun x d hx hd => HCC.out x y d) (fun a b => by have := prI_bd p1 p2 a b; omega) (wd - 1) (by omega) d hdl
                  rw [show cnt = dp ^ wd from HPW.out, least_all v5 v1 hdl (by omega)] at cL1
                  have ed : eq32 (fq 2 (dpG (CY own y) (prI one more) dp (wd - 1) d)) (fq 2 (dpG (CY own y) (prI one more) dp (wd - 1) d)) = true := by rw [eq32_fq (by omega) (by omega)]; exact decide_eq_true rfl
                  generalize fq 2 (dpG (CY own y) (prI one more) dp (wd - 1) d) = vd at *
                  obtain ⟨w1_, hw1_⟩ : ∃ u, u = wd - 1 := ⟨_, rfl⟩
                  rw [← hw1_] at f2
                  have hwI : (wd : Int) - 1 = (w1_ : Int) := by omega
                  have hwB : (w1_ : Int) ≤ 24 := by omega
                  have m1I : (m1 : Int) ≤ 576 := by omega
                  have m3I : (m3 : Int) ≤ 100000 := by omega
                  have mB : (m3 : Int) + (d : Int) < (Nv : Int) := by rw [HNV.out]; omega
                  have mB0 : (0 : Int) ≤ (m3 : Int) + (d : Int) := by omega
                  have mT : ((m3 : Int) + (d : Int)).toNat = m3 + d := by omega
                  have dI : (d : Int) < dp := by omega
                  clear hbq hbS f3 vT hgb hw1_ f5
                  go_wp2_with fail
                  go_quiet (fail)
                  go_wp2_with fail
                  go_roundw
                  case rel => exact ⟨d + 1, by go_num, by omega, below_drewN HBQ2.out _⟩
                  case measure => simp [intOf]; omega
                · obtain rfl : dp = d := by omega
                  obtain ⟨wY, hwY⟩ : ∃ wY, wY = wr := ⟨_, rfl⟩
                  subst hwY
                  have HBY := Lib.hid hbS
                  have hYY := Below.refl wY.heap.size wY
                  have EE := Lib.hid ee
                  clear hbq hbS ee
                  go_wp2_with fail
                  clear zA0 zA1 zA2 zA3
                  go_loopw [29] (fun v29 wq => ∃ x : Nat, v29 = .int .i64 x ∧ x ≤ wd ∧ Below wY.heap.size wY wq) (fun v29 _ => wd - (intOf v29).toNat)
                  case atStart => exact ⟨0, rfl, Nat.zero_le _, hYY⟩
                  case round =>
                    clear hYY
                    obtain ⟨x, rfl, hx, hbq⟩ := hrel
                    have hbS := HBY.out.trans (hbq.mono HBY.out.size)
                    have HBQ3 := Lib.hid hbq
                    have HBS3 := Lib.hid hbS
                    obtain ⟨zA0, zA1, zA2, zA3, -, -, -, -⟩ := (KA.out wr hbS).four
                    by_cases hxl : x < wd
                    · obtain ⟨wZ, hwZ⟩ : ∃ wZ, wZ = wr := ⟨_, rfl⟩
                      subst hwZ
                      obtain ⟨zB0, zB1, zB2, zB3, -, -, -, -⟩ := (KB.out wZ hbS).four
                      obtain ⟨m1, m3, f1, f2, f3, f4, f5, f6⟩ := ixW (wd := wd) (hi := hi) (dp := dp) (x := x) (y := y) hxl hy (by omega) (by omega) (by omega)
                      have hvg : ∀ d, d < dp → ∀ W, Below wZ.heap.size wZ W → W.cell? ⟨qB, m3 + d, none⟩ = some (.float .f32 (fq 2 (dpG (CY own y) (prI one more) dp x d + dpG (fun k d => CY own y (wd - 1 - k) d) (prI one more) dp (wd - 1 - x) d - CY own y x d))) := fun d hdl W hW => by
                        have vB := LB.out wZ hbS
                        have c := (vB.sl.at (m3 + d) (by rw [vB.len, HNV.out]; omega)).1
                        have hl := raw_left HAB.out.2.1 p1 p2 v5 (fun x y h => HQQ2.out x y h) (fun x y h => (HAB.out.2.2 x y h).2) hy v1 (wd - 1 - x) (by omega) d hdl
                        rw [show wd - 1 - (wd - 1 - x) = x by omega] at hl
                        rw [f3, (vB.qv.2 x y hxl hy).2 d hdl, getD_range_map _ _ _ hdl, raw_right HAB.out.1 p1 p2 v5 (fun x y h => HQQ2.out x y h) (fun x y h => (HAB.out.2.2 x y h).1) hy x hxl d hdl, hl, ← f3, Nat.zero_add] at c
                        exact (hW.cell (p := ⟨qB, m3 + d, none⟩) vB.qlt).trans c
                      have hfb : ∀ d, d < dp → (dpG (CY own y) (prI one more) dp x d + dpG (fun k d => CY own y (wd - 1 - k) d) (prI one more) dp (wd - 1 - x) d - CY own y x d).natAbs ≤ 20000 := fun d hdl => by
                        have a := dpG_bd (C := CY own y) (pr := prI one more) (dp := dp) (wd := wd) v5 (fun x d hx hd => HCC.out x y d) (fun a b => by have := prI_bd p1 p2 a b; omega) x hxl d hdl
                        have b := dpG_bd (C := fun k d => CY own y (wd - 1 - k) d) (pr := prI one more) (dp := dp) (wd := wd) v5 (fun x d hx hd => HCC.out (wd - 1 - x) y d) (fun a b => by have := prI_bd p1 p2 a b; omega) (wd - 1 - x) (by omega) d hdl
                        have c := HCC.out x y d
                        have e : CY own y x d = cC own x y d := rfl
                        omega
                      have hbest := best_both (P := own) (one := one) (more := more) (dp := dp) (wd := wd) (y := y) (x := x) v5 hxl
                      obtain ⟨fB, hfB⟩ : ∃ fB : Nat → Int, fB = fun d => dpG (CY own y) (prI one more) dp x d + dpG (fun k d => CY own y (wd - 1 - k) d) (prI one more) dp (wd - 1 - x) d - CY own y x d := ⟨_, rfl⟩
                      rw [← hfB] at hbest
                      have hvg2 : ∀ d, d < dp → ∀ W, Below wZ.heap.size wZ W → W.cell? ⟨qB, m3 + d, none⟩ = some (.float .f32 (fq 2 (fB d))) := fun d hdl W hW => by rw [hfB]; exact hvg d hdl W hW
                      have hfb2 : ∀ d, d < dp → (fB d).natAbs ≤ 20000 := fun d hdl => by rw [hfB]; exact hfb d hdl
                      have HVG := Lib.hid hvg2
                      have HFB := Lib.hid hfb2
                      have HBEST := Lib.hid hbest
                      have c0 := hvg2 0 (by omega) wZ (Below.refl _ _)
                      rw [Nat.add_zero] at c0
                      obtain ⟨vb0, hvb0⟩ : ∃ v, v = fq 2 (bestN fB 0) := ⟨_, rfl⟩
                      rw [show fB 0 = bestN fB 0 from rfl, ← hvb0] at c0
                      have HVB0 := Lib.hid hvb0
                      have m1I : (m1 : Int) ≤ 576 := by omega
                      have m3I : (m3 : Int) ≤ 100000 := by omega
                      have mB : (m3 : Int) < (Nv : Int) := by rw [HNV.out]; omega
                      have mN : m3 < Nv := by omega
                      have mND := Lib.hid (show m3 + dp ≤ Nv by rw [HNV.out]; exact f5)
                      have xI : (x : Int) < wd := by omega
                      have hZZ := Below.refl wZ.heap.size wZ
                      clear hbq f3 f5 hvg hfb hbest hfB hvg2 hfb2 hvb0
                      go_wp2_with fail
                      clear zA0 zA1 zA2 zA3 zB0 zB1 zB2 zB3 c0
                      go_loopw [30, 31] (fun v30 v31 wq => ∃ e vb : Nat, v31 = .int .i64 ((e : Int) + 1) ∧ e + 1 ≤ dp ∧ v30 = .float .f32 vb ∧ vb = fq 2 (bestN fB e) ∧ Below wZ.heap.size wZ wq) (fun _ v31 _ => dp - (intOf v31).toNat)
                      case atStart => exact ⟨0, vb0, rfl, by omega, rfl, HVB0.out, hZZ⟩
                      case round =>
                        clear hZZ hbS
                        obtain ⟨e, vb, rfl, he, rfl, hvb, hbw⟩ := hrel
                        have hbS := HBS3.out.trans (hbw.mono HBS3.out.size)
                        obtain ⟨zA0, zA1, zA2, zA3, -, -, -, -⟩ := (KA.out wr hbS).four
                        have HBW := Lib.hid hbw
                        have HVB := Lib.hid hvb
                        have hbst : (bestN fB e).natAbs ≤ 20000 := by
                          obtain ⟨i, hi_, hz⟩ := bestN_is fB e
                          rw [hz]; exact HFB.out i (by omega)
                        by_cases hel : e + 1 < dp
                        · obtain ⟨zB0, zB1, zB2, zB3, -, -, -, -⟩ := (KB.out wr hbS).four
                          have c1 := HVG.out (e + 1) hel wr hbw
                          have b1 := HFB.out (e + 1) hel
                          have mn := fminW_q (a := bestN fB e) (b := fB (e + 1)) (by omega) (by omega)
                          obtain ⟨vf, hvf⟩ : ∃ v, fq 2 (fB (e + 1)) = v := ⟨_, rfl⟩
                          obtain ⟨vn, hvn⟩ : ∃ v, v = fq 2 (bestN fB (e + 1)) := ⟨_, rfl⟩
                          rw [← hvb, hvf, show min (bestN fB e) (fB (e + 1)) = bestN fB (e + 1) from rfl, ← hvn] at mn
                          rw [hvf] at c1
                          have HVN := Lib.hid hvn
                          have eI : (e : Int) + 1 < dp := by omega
                          have k1 : (m3 : Int) + ((e : Int) + 1) < (Nv : Int) := by have := mND.out; omega
                          have k2 : (0 : Int) ≤ (m3 : Int) + ((e : Int) + 1) := by omega
                          have k3 : ((m3 : Int) + ((e : Int) + 1)).toNat = m3 + (e + 1) := by omega
                          have k4 : (e : Int) ≤ 100 := by omega
                          clear hbw hbS hvb b1 hvf hvn hbst
                          go_wp2_with fail
                          go_roundw
                          case rel => exact ⟨e + 1, vn, by go_num, by omega, rfl, HVN.out, HBW.out⟩
                          case measure => simp [intOf]; omega
                        · have hd1 : dp - 1 = e := by omega
                          have hb2 := HBEST.out
                          rw [hd1] at hb2
                          rw [hb2, HVC.out] at hvb
                          have ee := EE.out
                          rw [← hvb] at ee
                          have edI : ¬ ((e : Int) + 1 < dp) := by omega
                          have hvc2 : vc = vb := hvb.symm
                          subst hvc2
                          clear hbw hbS hb2 hbst
                          go_wp2_with fail
                          go_roundw
                          case rel => exact ⟨x + 1, by go_num, by omega, HBQ3.out.trans (HBW.out.mono HBQ3.out.size)⟩
                          case measure => simp [intOf]; omega
                    · obtain rfl : wd = x := by omega
                      clear hbq hbS
                      go_wp2_with fail
                      go_ret
                      exact ⟨rfl, HBEL.out.trans (HBS3.out.mono HBEL.out.size)⟩

theorem fnWays_walk (w : World) (a0 a1 : Option Addr) (l0 c0 l1 c1 : Nat) (z0 z1 : List Int)
    (r0 : (a0 = none ∧ l0 = 0 ∧ c0 = 0 ∧ z0 = []) ∨ ∃ x, a0 = some x ∧ l0 ≤ c0 ∧ c0 ≤ maxLen ∧ z0.length = c0 ∧ (∀ i, i < z0.length → w.cell? (x.add i) = some (.int .u8 (z0.getD i 0))) ∧ ∀ n ∈ z0, (Lit.int .u8 n).wf = true)
    (r1 : (a1 = none ∧ l1 = 0 ∧ c1 = 0 ∧ z1 = []) ∨ ∃ x, a1 = some x ∧ l1 ≤ c1 ∧ c1 ≤ maxLen ∧ z1.length = c1 ∧ (∀ i, i < z1.length → w.cell? (x.add i) = some (.int .u8 (z1.getD i 0))) ∧ ∀ n ∈ z1, (Lit.int .u8 n).wf = true) :
    Calls Try.prog 4 #[.slice a0 l0 c0, .slice a1 l1 c1] w fun e w' => e = .returned (.bool true) ∧ Below w.heap.size w w' := by
  by_cases h : l0 ≤ 48 ∧ l1 ≤ 48
  · exact fnWays_short w a0 a1 l0 c0 l1 c1 h.1 h.2 (bytesIn_of_row r0 (by omega)) (bytesIn_of_row r1 (by omega))
  · exact fnWays_long w a0 a1 l0 c0 l1 c1 (len_of_row r0) (len_of_row r1) h

end Go.Proofs.Ytfhlpabbacopjaa
