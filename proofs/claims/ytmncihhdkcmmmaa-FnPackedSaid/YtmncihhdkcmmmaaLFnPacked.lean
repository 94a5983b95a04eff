/- The law of what is packed and stored: the walk of its code. No condition. -/
import Derived.Test.YtmncihhdkcmmmaaUh
import Derived.Test.YtmncihhdkcmmmaaUk
import Derived.Test.YtmncihhdkcmmmaaUm
import Derived.Test.YtmncihhdkcmmmaaLaw
import Derived.Deep.RegionHeld3
import Derived.StillTactics
import Derived.Deep.CutRange
import Derived.Deep.LoopGhost
namespace Go.Proofs.Ytmncihhdkcmmmaa
open Go.RowKit
set_option maxRecDepth 100000
set_option linter.unusedVariables false
set_option linter.unusedSimpArgs false

theorem fnPacked_long (w : World) (a0 a1 : Option Addr) (l0 c0 l1 c1 : Nat) (m0 : l0 ≤ 9223372036854775807) (m1 : l1 ≤ 9223372036854775807) (h : ¬ (l0 ≤ 48 ∧ l1 ≤ 48)) :
    Calls Try.prog 4 #[.slice a0 l0 c0, .slice a1 l1 c1] w fun e w' => e = .returned (.bool true) ∧ Below w.heap.size w w' := by
  go_enter Try.func4, Try.ntmps4
  go_wp2_with fail
  refine (r8Long_yes _ _ _ _ _ _ _ m0 m1 h).mono ?_
  rintro e w' ⟨rfl, rfl⟩
  go_wp2
  go_ret
  exact ⟨rfl, Below.refl _ _⟩

theorem own_byte {w : World} {B g cap i z : Nat} {l : List UInt8} (hl : l.length = i) (hz : z < 256) (h : w.ownsRow B 5 1 (.slice (some ⟨g, 0, none⟩) (i + 1) cap) (i + 1) (uCells l ++ [.int .u8 (z : Int)])) : OwnU w B (.slice (some ⟨g, 0, none⟩) (i + 1) cap) (l ++ [UInt8.ofNat z]) := by
  unfold OwnU
  rw [List.length_append, hl]
  have e : uCells (l ++ [UInt8.ofNat z]) = uCells l ++ [.int .u8 (z : Int)] := by
    unfold uCells
    rw [List.map_append, List.map_cons, List.map_nil, UInt8.toNat_ofNat', Nat.mod_eq_of_lt (show z < 2 ^ 8 by omega)]
  rw [e]; exact h
theorem alb1p (w : World) (o : Obj) : Below w.heap.size w (w.alloc o) := (Below.refl _ _).alloc (Nat.le_refl _) _
theorem ext_take (l : List UInt8) (k : Nat) : ({ data := l.toArray } : ByteArray).extract 0 k = { data := (l.take k).toArray } := by
  apply ByteArray.ext
  rw [ByteArray.data_extract]
  apply Array.ext'
  simp
theorem app_x (l : List UInt8) : ({ data := l.toArray } : ByteArray) ++ { data := #[120] } = { data := (l ++ [120]).toArray } := by
  apply ByteArray.ext
  apply Array.ext'
  simp
/-- No beginning of a packed map is one. -/
theorem unpack_cut (w : World) (L : List UInt8) (wd hi N k : Nat) (hs : szOk wd hi = true) (hN : N = wd * hi) (h1 : 1 ≤ wd) (h2 : wd ≤ 24) (h3 : 1 ≤ hi) (h4 : hi ≤ 24) (hN2 : N ≤ 256) (hL : L.length ≤ 1000) (hp : Pairs L) (hu : (un L).length = N) (hk : k < L.length) :
    Calls Try.prog 18 #[.string (({ data := L.toArray } : ByteArray).extract 0 k), .int .i64 wd, .int .i64 hi] w fun e w' => e = .returned (.tuple #[.agg #[.int .i64 0, .int .i64 0, .slice none 0 0], .bool false]) ∧ Below w.heap.size w w' := by
  rw [ext_take]
  have htl : (L.take k).length = k := by rw [List.length_take]; omega
  by_cases he : k % 2 = 1
  · refine unpack_odd w _ wd hi hs ?_ ?_
    · show (L.take k).toArray.size % 2 = 1
      rw [List.size_toArray, htl]; exact he
    · show (L.take k).toArray.size ≤ _
      rw [List.size_toArray, htl]; omega
  · obtain ⟨j, hj⟩ : ∃ j, k = 2 * j := ⟨k / 2, by omega⟩
    have h := un_short (k := j) hp (by omega)
    rw [← hj] at h
    refine unpack_no w _ wd hi N (by omega) hs hN h1 h2 h3 h4 hN2 (by omega) ?_ (by omega)
    rw [hj]; exact hp.take

set_option maxHeartbeats 40000000 in
theorem fnPacked_short (w : World) (a0 a1 : Option Addr) (l0 c0 l1 c1 : Nat) (h0 : l0 ≤ 48) (h1 : l1 ≤ 48) (hb0 : BytesIn w a0 l0) (hb1 : BytesIn w a1 l1) :
    Calls Try.prog 4 #[.slice a0 l0 c0, .slice a1 l1 c1] w fun e w' => e = .returned (.bool true) ∧ Below w.heap.size w w' := by
  go_enter Try.func4, Try.ntmps4
  go_wp2_with fail
  refine (r8Long_no _ _ _ _ _ _ _ h0 h1).mono ?_
  rintro e w' ⟨rfl, rfl⟩
  go_wp2_with fail
  refine (r8Volume_any _ _ _ _ hb0).mono ?_
  rintro e wV ⟨wd, hi, dp, qV, cV, kv, rfl, v1, v2, v3, v4, v5, v6, -, hov, -, bw⟩
  obtain ⟨nV, hnV⟩ : ∃ n, n = kv.length := ⟨_, rfl⟩
  rw [← hnV] at hov ⊢
  clear hnV
  obtain ⟨N, hN⟩ : ∃ N, N = wd * hi := ⟨_, rfl⟩
  have hN1 : 1 ≤ N := by rw [hN]; exact Nat.mul_pos v1 v3
  have hN2 : N ≤ 12 := by rw [hN]; exact Nat.mul_le_mul v2 v4
  have hv : vPic wd hi N = true := by rw [hN]; exact vPic_of v1 (by omega) v3 (by omega) (by omega)
  have hs : szOk wd hi = true := by
    have h := hv
    unfold vPic at h
    rw [Bool.and_eq_true] at h
    exact h.1
  have HN := Lib.hid hN
  have HV := Lib.hid hv
  have HSZ := Lib.hid hs
  clear hN hv hs hov
  have hbel := bw
  replace hb1 := hb1.below bw
  replace hb0 := hb0.below bw
  have ha : Below wV.heap.size wV (wV.alloc (.cells #[.int .i64 wd, .int .i64 hi, .int .i64 dp, .slice (some ⟨qV, 0, none⟩) nV cV] 43)) := alb1p _ _
  have bV := BoxN.last wV #[.int .i64 wd, .int .i64 hi, .int .i64 dp, .slice (some ⟨qV, 0, none⟩) nV cV] 43
  replace hb1 := hb1.below ha
  replace hb0 := hb0.below ha
  replace hbel := hbel.trans (ha.mono hbel.size)
  clear bw ha
  obtain ⟨zV0, zV1, zV2, zV3, -, -, -, -⟩ := bV.four'
  go_wp2_with fail
  generalize hoV : wV.heap.size = oV at *
  generalize hwV : wV.alloc (.cells #[.int .i64 wd, .int .i64 hi, .int .i64 dp, .slice (some ⟨qV, 0, none⟩) nV cV] 43) = WV at *
  clear hoV hwV
  clear zV0 zV1 zV2 zV3
  refine (r8Whole_any _ _ _ _ wd hi dp N _ _ _ hb1 v1 (by omega) v3 (by omega) HN.out (by omega) v5 (by omega)).mono ?_
  rintro e wM ⟨qM, cM, ms, rfl, mM, bw⟩
  have ha : Below wM.heap.size wM (wM.alloc (.cells #[.int .i64 wd, .int .i64 hi, .slice (some ⟨qM, 0, none⟩) N cM] 46)) := (Below.refl _ _).alloc (Nat.le_refl _) _
  have bM := BoxN.last wM #[.int .i64 wd, .int .i64 hi, .slice (some ⟨qM, 0, none⟩) N cM] 46
  replace mM := mM.below ha
  replace bV := (bV.below bw).below ha
  replace hb0 := (hb0.below bw).below ha
  replace hb1 := (hb1.below bw).below ha
  replace hbel := (hbel.trans (bw.mono hbel.size)).trans (ha.mono (Nat.le_trans hbel.size bw.size))
  clear bw ha
  obtain ⟨L, hL⟩ : ∃ L, L = pkA ms wd hi := ⟨_, rfl⟩
  have hml : ms.length = wd * hi := by rw [mM.len, HN.out]
  obtain ⟨p1, p2, p3⟩ := pkA_ok hml (show wd ≤ 200 by omega) (fun z hz => by have := mM.bd z hz; omega) hi (Nat.le_refl _)
  rw [← hL] at p1 p2 p3
  rw [List.take_of_length_le (by omega)] at p2
  have hL1 : 1 ≤ L.length := by
    cases hh : L with
    | nil => rw [hh] at p2; have := congrArg List.length p2; rw [hml, ← HN.out] at this; simp [un] at this; omega
    | cons a l => simp
  have hL2 : L.length ≤ 30 := by rw [← HN.out] at p3; omega
  obtain ⟨s, hS⟩ : ∃ s : ByteArray, s = { data := L.toArray } := ⟨_, rfl⟩
  have hssz : s.size = L.length := by rw [hS]; show L.toArray.size = _; rw [List.size_toArray]
  have HP := Lib.hid p1
  have HUN := Lib.hid p2
  have HL := Lib.hid hL
  have HS := Lib.hid hS
  have HML := Lib.hid hml
  clear p1 p2 p3 hL hml hS
  obtain ⟨zM0, zM1, zM2, -, -, -⟩ := bM.three.cells
  go_wp2_with fail
  generalize hoM : wM.heap.size = oM at *
  generalize hwM : wM.alloc (.cells #[.int .i64 wd, .int .i64 hi, .slice (some ⟨qM, 0, none⟩) N cM] 46) = WM at *
  clear hoM hwM
  clear zM0 zM1 zM2
  refine (packMap_any _ wd hi N qM cM dp ms HV.out HN.out v1 (by omega) v3 (by omega) (by omega) (by omega) mM).mono ?_
  rw [← HL.out, ← HS.out]
  rintro e wK ⟨rfl, bw⟩
  replace bV := bV.below bw
  replace hb0 := hb0.below bw
  replace hb1 := hb1.below bw
  replace bM := bM.below bw
  replace mM := mM.below bw
  replace hbel := hbel.trans (bw.mono hbel.size)
  clear bw
  obtain ⟨zM0, zM1, zM2, -, -, -⟩ := bM.three.cells
  go_wp2_with fail
  clear zM0 zM1 zM2
  rw [HS.out]
  refine (unpack_yes _ L wd hi N dp (by omega) (fun z hz => mM.bd z (by rw [← HUN.out]; exact hz)) (by rw [HUN.out]; exact mM.len) (by rw [HUN.out]; exact HL.out.symm) HV.out HSZ.out HN.out v1 (by omega) v3 (by omega) (by omega) (by omega) HP.out (by rw [HUN.out, mM.len]; exact Nat.le_refl _)).mono ?_
  rw [← HS.out, HUN.out]
  rintro e wB ⟨qB, cB, rfl, mB, bw⟩
  have ha : Below wB.heap.size wB (wB.alloc (.cells #[.int .i64 wd, .int .i64 hi, .slice (some ⟨qB, 0, none⟩) N cB] 46)) := (Below.refl _ _).alloc (Nat.le_refl _) _
  have bB := BoxN.last wB #[.int .i64 wd, .int .i64 hi, .slice (some ⟨qB, 0, none⟩) N cB] 46
  replace mB := mB.below ha
  replace bV := (bV.below bw).below ha
  replace hb0 := (hb0.below bw).below ha
  replace hb1 := (hb1.below bw).below ha
  replace bM := (bM.below bw).below ha
  replace mM := (mM.below bw).below ha
  replace hbel := (hbel.trans (bw.mono hbel.size)).trans (ha.mono (Nat.le_trans hbel.size bw.size))
  clear bw ha
  have hd : True := trivial
  obtain ⟨zM0, zM1, zM2, -, -, -⟩ := bM.three.cells
  go_upto_region 7 with fail
  generalize hoB : wB.heap.size = oB at *
  generalize hwB : wB.alloc (.cells #[.int .i64 wd, .int .i64 hi, .slice (some ⟨qB, 0, none⟩) N cB] 46) = WB at *
  clear hoB hwB
  have SM := Lib.hid bM
  have KAT := Lib.hid (fun W (hW : Below WB.heap.size WB W) => r8At_any W _ _ c1 40 (L.length : Int) (by omega) (by omega) (by omega) (hb1.below hW))
  rw [show ((40 : Nat) : Int) = 40 from rfl] at KAT
  have KUN := Lib.hid (fun W (hW : Below WB.heap.size WB W) k (hk : k < L.length) => unpack_cut W L wd hi N k HSZ.out HN.out v1 (by omega) v3 (by omega) (by omega) (by omega) HP.out (by rw [HUN.out]; exact mM.len) hk)
  rw [← HS.out] at KUN
  have CELLS := Lib.hid (show ∀ W, Below WB.heap.size WB W → Below WB.heap.size WB W ∧ W.cell? ⟨oM, 0, none⟩ = some (.int .i64 wd) ∧ W.cell? ⟨oM, 1, none⟩ = some (.int .i64 hi) from fun W hW => by
    obtain ⟨u0, u1, u2, -, -, -⟩ := (SM.out.below hW).three.cells
    exact ⟨hW, u0, u1⟩)
  have hA0 : Below WB.heap.size WB WB.drew := below_drewN (Below.refl _ _) 1
  have hA1 : Below WB.heap.size WB (WB.alloc (.cells #[.int .i64 0, .int .i64 0, .slice none 0 0] 46)).drew := below_drewN (alb1p _ _) 1
  have LV := Lib.hid (And.intro bM (And.intro bB (And.intro mM (And.intro mB (And.intro hb0 (And.intro hb1 hbel))))))
  clear bM bB mM mB hb0 hb1 hbel bV hd
  go_cut [12] from 49 to 62 (fun v12 wx => v12 = .bool false ∧ Below WB.heap.size WB wx)
  case first =>
    go_region_held3 (fun W => Below WB.heap.size WB W ∧ W.cell? ⟨oM, 0, none⟩ = some (.int .i64 wd) ∧ W.cell? ⟨oM, 1, none⟩ = some (.int .i64 hi))
      (first | (refine CELLS.out _ ?_; first | exact hbU | exact hA0 | exact hA1 | exact hbU.alloc hbU.size _ | exact (((hbU.setCell (by simp) _).setCell (by simp) _).setCell (by simp) _)) | go_keep)
      ((first
        | (go_at_call 11; (with_reducible refine (KAT.out _ hA0).mono ?_); rintro e w' ⟨kz, rfl, k0, k1, rfl⟩; obtain ⟨k, rfl⟩ := Int.eq_ofNat_of_zero_le k0; have hk : k < L.length := (by omega); have hkn : ((k : Int)).toNat = k := rfl; have hkl : (k : Int) ≤ (L.length : Int) := (by omega))
        | (go_at_call 11; (with_reducible refine (KAT.out _ hA1).mono ?_); rintro e w' ⟨kz, rfl, k0, k1, rfl⟩; obtain ⟨k, rfl⟩ := Int.eq_ofNat_of_zero_le k0; have hk : k < L.length := (by omega); have hkn : ((k : Int)).toNat = k := rfl; have hkl : (k : Int) ≤ (L.length : Int) := (by omega))
        | (go_at_call 18; (with_reducible refine (KUN.out _ hA0 k hk).mono ?_); rintro e wU ⟨rfl, hbU1⟩; have hbU := hA0.trans (hbU1.mono hA0.size))
        | (go_at_call 18; (with_reducible refine (KUN.out _ hA1 k hk).mono ?_); rintro e wU ⟨rfl, hbU1⟩; have hbU := hA1.trans (hbU1.mono hA1.size); obtain ⟨o0, o1, o2, k0, k1, k2⟩ := (((BoxN.last WB #[.int .i64 0, .int .i64 0, .slice none 0 0] 46).drewN 1).below hbU1).three.cells)))
    all_goals
      go_wp2_with fail
      go_meet
      first
        | exact ⟨rfl, hbU.alloc hbU.size _⟩
        | exact ⟨rfl, ((hbU.setCell (Nat.le_refl _) _).setCell (Nat.le_refl _) _).setCell (Nat.le_refl _) _⟩
  case rest =>
    obtain ⟨rfl, hbx⟩ := hcut
    obtain ⟨bM, bB, mM, mB, hb0, hb1, hbel⟩ := LV.out
    replace bM := bM.below hbx
    replace bB := bB.below hbx
    replace mM := mM.below hbx
    replace mB := mB.below hbx
    replace hb0 := hb0.below hbx
    replace hb1 := hb1.below hbx
    replace hbel := hbel.trans (hbx.mono hbel.size)
    clear hA0 hA1 CELLS KAT KUN SM LV hbx
    go_wp2_with fail
    refine (r8Wild_any _ _ _ _ hb0).mono ?_
    rintro e wP ⟨xw, xh, a, cP, bs, rfl, x1, x2, x3, x4, hbl, hop, bw⟩
    obtain ⟨n, hn⟩ : ∃ n, n = xw * xh := ⟨_, rfl⟩
    rw [← hn] at hbl
    have hn1 : 1 ≤ n := by rw [hn]; exact Nat.mul_pos x1 x3
    have hn2 : n ≤ 24 := by rw [hn]; exact Nat.mul_le_mul x2 x4
    have hpv : vPic xw xh n = true := by rw [hn]; exact vPic_of x1 (by omega) x3 (by omega) (by omega)
    obtain ⟨qP, rfl⟩ : ∃ q, a = some ⟨q, 0, none⟩ := by
      rcases hop.form with ⟨_, h2⟩ | ⟨q, cap, h1, _⟩
      · rw [h2] at hbl; simp at hbl; omega
      · injection h1 with e1; exact ⟨q, e1⟩
    rw [hbl] at hop ⊢
    have mP := hop.sl
    have hltb := hop.2
    have HXN := Lib.hid hn
    have HPV := Lib.hid hpv
    have HBL := Lib.hid hbl
    have HLT := Lib.hid hltb
    clear hn hpv hbl hltb hop
    have ha : Below wP.heap.size wP (wP.alloc (.cells #[.int .i64 xw, .int .i64 xh, .slice (some ⟨qP, 0, none⟩) n cP] 41)) := (Below.refl _ _).alloc (Nat.le_refl _) _
    have bP := BoxN.last wP #[.int .i64 xw, .int .i64 xh, .slice (some ⟨qP, 0, none⟩) n cP] 41
    replace mP := mP.below ha
    replace bM := (bM.below bw).below ha
    replace bB := (bB.below bw).below ha
    replace mM := (mM.below bw).below ha
    replace mB := (mB.below bw).below ha
    replace hb0 := (hb0.below bw).below ha
    replace hb1 := (hb1.below bw).below ha
    replace hbel := (hbel.trans (bw.mono hbel.size)).trans (ha.mono (Nat.le_trans hbel.size bw.size))
    clear bw ha
    obtain ⟨zP0, zP1, zP2, -, -, -⟩ := bP.three.cells
    go_wp2_with fail
    generalize hoP : wP.heap.size = oP at *
    generalize hwP : wP.alloc (.cells #[.int .i64 xw, .int .i64 xh, .slice (some ⟨qP, 0, none⟩) n cP] 41) = WP at *
    clear hoP hwP
    clear zP0 zP1 zP2
    refine (storePicture_any _ xw xh qP cP n bs HBL.out HPV.out (by omega) (by omega) (by omega) mP).mono ?_
    rintro e wT ⟨rfl, bw⟩
    replace bM := bM.below bw
    replace bB := bB.below bw
    replace mM := mM.below bw
    replace mB := mB.below bw
    replace hb0 := hb0.below bw
    replace hb1 := hb1.below bw
    replace bP := bP.below bw
    replace mP := mP.below bw
    replace hbel := hbel.trans (bw.mono hbel.size)
    clear bw
    obtain ⟨t, hT⟩ : ∃ t : ByteArray, t = { data := (stoL xw xh bs).toArray } := ⟨_, rfl⟩
    have ht0 : TextOf t xw xh n bs 0 := by rw [hT]; have := text_of [] (show xw ≤ 24 by omega) (show xh ≤ 24 by omega) HBL.out; rw [List.append_nil] at this; exact this
    have ht1 : TextOf (t ++ { data := #[120] }) xw xh n bs 1 := by rw [hT, app_x]; exact text_of [120] (by omega) (by omega) HBL.out
    rw [← hT]
    have hts : t.size = 6 + 4 * n := ht0.size
    have hzx : ({ data := #[120] } : ByteArray).size = 1 := rfl
    have HT0 := Lib.hid ht0
    have HT1 := Lib.hid ht1
    clear hT ht0 ht1
    go_wp2_with fail
    refine (loadPicture_yes _ t xw xh n bs HPV.out HXN.out x1 (by omega) x3 (by omega) (by omega) HBL.out HLT.out HT0.out).mono ?_
    rintro e wO ⟨qO, cO, bs', he, hoo, hl', hfl, bw⟩
    obtain rfl : e = .returned (.tuple #[.agg #[.int .i64 xw, .int .i64 xh, .slice (some ⟨qO, 0, none⟩) n cO], .bool true]) := he
    have mO := hoo.sl
    have HFL := Lib.hid hfl
    clear hoo hfl
    have ha : Below wO.heap.size wO (wO.alloc (.cells #[.int .i64 xw, .int .i64 xh, .slice (some ⟨qO, 0, none⟩) n cO] 41)) := (Below.refl _ _).alloc (Nat.le_refl _) _
    have bO := BoxN.last wO #[.int .i64 xw, .int .i64 xh, .slice (some ⟨qO, 0, none⟩) n cO] 41
    replace mO := mO.below ha
    replace bM := (bM.below bw).below ha
    replace bB := (bB.below bw).below ha
    replace mM := (mM.below bw).below ha
    replace mB := (mB.below bw).below ha
    replace hb0 := (hb0.below bw).below ha
    replace hb1 := (hb1.below bw).below ha
    replace bP := (bP.below bw).below ha
    replace mP := (mP.below bw).below ha
    replace hbel := (hbel.trans (bw.mono hbel.size)).trans (ha.mono (Nat.le_trans hbel.size bw.size))
    clear bw ha
    go_wp2_with fail
    generalize hoO : wO.heap.size = oO at *
    generalize hwO : wO.alloc (.cells #[.int .i64 xw, .int .i64 xh, .slice (some ⟨qO, 0, none⟩) n cO] 41) = WO at *
    clear hoO hwO
    refine (loadPicture_no _ _ xw xh n bs HPV.out HXN.out x1 (by omega) x3 (by omega) (by omega) HBL.out HLT.out HT1.out).mono ?_
    rintro e wZ ⟨rfl, bw⟩
    have ha : Below wZ.heap.size wZ (wZ.alloc (.cells #[.int .i64 0, .int .i64 0, .slice none 0 0] 41)) := alb1p _ _
    replace bM := (bM.below bw).below ha
    replace bB := (bB.below bw).below ha
    replace mM := (mM.below bw).below ha
    replace mB := (mB.below bw).below ha
    replace hb0 := (hb0.below bw).below ha
    replace hb1 := (hb1.below bw).below ha
    replace bP := (bP.below bw).below ha
    replace mP := (mP.below bw).below ha
    replace bO := (bO.below bw).below ha
    replace mO := (mO.below bw).below ha
    replace hbel := (hbel.trans (bw.mono hbel.size)).trans (ha.mono (Nat.le_trans hbel.size bw.size))
    clear bw ha
    obtain ⟨zB0, zB1, zB2, -, -, -⟩ := bB.three.cells
    obtain ⟨zM0, zM1, zM2, -, -, -⟩ := bM.three.cells
    go_wp2_with fail
    generalize hoZ : wZ.heap.size = oZ at *
    generalize hwZ : wZ.alloc (.cells #[.int .i64 0, .int .i64 0, .slice none 0 0] 41) = WZ at *
    clear hoZ hwZ
    clear zB0 zB1 zB2 zM0 zM1 zM2
    refine (sameMap_yes _ wd hi (some ⟨qB, 0, none⟩) (some ⟨qM, 0, none⟩) N N cB cM _ _ mB.sl mM.sl rfl).mono ?_
    rintro e wY ⟨rfl, bw⟩
    replace bM := bM.below bw
    replace bB := bB.below bw
    replace mM := mM.below bw
    replace mB := mB.below bw
    replace hb0 := hb0.below bw
    replace hb1 := hb1.below bw
    replace bP := bP.below bw
    replace mP := mP.below bw
    replace bO := bO.below bw
    replace mO := mO.below bw
    replace hbel := hbel.trans (bw.mono hbel.size)
    clear bw
    obtain ⟨zO0, zO1, zO2, -, -, -⟩ := bO.three.cells
    obtain ⟨zP0, zP1, zP2, -, -, -⟩ := bP.three.cells
    go_wp2_with fail
    clear zO0 zO1 zO2 zP0 zP1 zP2
    refine (samePicture_yes _ xw xh (some ⟨qO, 0, none⟩) (some ⟨qP, 0, none⟩) n n cO cP bs' bs mO mP HFL.out).mono ?_
    rintro e wX ⟨rfl, bw⟩
    replace bM := bM.below bw
    replace bB := bB.below bw
    replace mM := mM.below bw
    replace mB := mB.below bw
    replace hb0 := hb0.below bw
    replace hb1 := hb1.below bw
    replace bP := bP.below bw
    replace mP := mP.below bw
    replace bO := bO.below bw
    replace mO := mO.below bw
    replace hbel := hbel.trans (bw.mono hbel.size)
    clear bw
    have HB1 := Lib.hid hb1
    have HBEL := Lib.hid hbel
    have HSU := Lib.hid (OwnU.start wX wX.heap.size (Nat.le_refl _))
    have hbU : Below wX.heap.size wX (wX.alloc (.cells #[] 5)) := alb1p _ _
    have HBU := Lib.hid hbU
    obtain ⟨i0, hi0, hz0, hz1, hz2⟩ := info_parts info_u8
    clear bM bB bP bO mM mB mP mO hb0 hb1 hbel hbU
    go_wp2_with fail
    go_loopw [20, 21] (fun v20 v21 wr => ∃ (i : Nat) (v : Value) (l : List UInt8), v21 = .int .i64 i ∧ i ≤ 6 ∧ v = v20 ∧ l.length = i ∧ OwnU wr wX.heap.size v l ∧ Below wX.heap.size wX wr) (fun _ v21 _ => 6 - (intOf v21).toNat)
    case atStart => exact ⟨0, _, [], rfl, Nat.zero_le _, rfl, rfl, HSU.out, HBU.out⟩
    case round =>
      clear HSU HBU
      obtain ⟨i, v, l, rfl, hi_, rfl, hll, hown, hbw⟩ := hrel
      have HOW := Lib.hid hown
      have HBW := Lib.hid hbw
      have HLL := Lib.hid hll
      by_cases hlt : i < 6
      · have own1 : wr.ownsRow wX.heap.size 5 1 v i (uCells l) := by
          have := hown
          unfold OwnU at this
          rwa [hll] at this
        have hsw := hbw.size
        have hrb := HB1.out.below hbw
        have hiI : (i : Int) < 6 := by omega
        clear hown hbw hll
        by_cases hil : i < l1
        · rcases hrb.2 with h0' | ⟨bb, off, hra, hbb, hc⟩
          · omega
          · subst hra
            obtain ⟨z, hz, hzz0, hzz1⟩ := hc i hil
            obtain ⟨zn, rfl⟩ := Int.eq_ofNat_of_zero_le hzz0
            have hzn : zn < 256 := by omega
            have hilI : (i : Int) < (l1 : Int) := by omega
            clear hc hrb hzz0 hzz1
            go_wp2_with (at_builtin; refine wpList_append_lies _ (by rfl) _ _ _ (by rfl) wX.heap.size 5 i0 _ 1 1 Try.underlying22 hi0 hz0 hz1 hz2 rfl (by omega) v i _ (by rfl) (World.ownsRow.alloc own1 _) ⟨wr.heap.size, 0, none⟩ 1 1 [.int .u8 (zn : Int)] (by rfl) (by rfl) (cell_one_new _ _ _) (by simp [Value.oneCell']) (by omega) (by unfold maxLen; omega) (by omega) (by simp; omega) (wr.heap.size + 1) (by simp) ?_; intro g2 cap2 w4 hown2 hgrow hat hlt2)
            go_roundw
            case rel => exact ⟨i + 1, _, l ++ [UInt8.ofNat zn], by go_num, by omega, rfl, by rw [List.length_append, HLL.out]; rfl, own_byte HLL.out hzn hown2, (HBW.out.alloc HBW.out.size _).grown hgrow (by have := HBW.out.size; simp; omega) (fun k hk => (HOW.out.lt hk).1)⟩
            case measure => simp [intOf]; omega
        · have hilI : ¬ (i : Int) < (l1 : Int) := by omega
          clear hrb
          go_wp2_with (at_builtin; refine wpList_append_lies _ (by rfl) _ _ _ (by rfl) wX.heap.size 5 i0 _ 1 1 Try.underlying22 hi0 hz0 hz1 hz2 rfl (by omega) v i _ (by rfl) (World.ownsRow.alloc own1 _) ⟨wr.heap.size, 0, none⟩ 1 1 [.int .u8 0] (by rfl) (by rfl) (cell_one_new _ _ _) (by simp [Value.oneCell']) (by omega) (by unfold maxLen; omega) (by omega) (by simp; omega) (wr.heap.size + 1) (by simp) ?_; intro g2 cap2 w4 hown2 hgrow hat hlt2)
          go_roundw
          case rel => exact ⟨i + 1, _, l ++ [UInt8.ofNat 0], by go_num, by omega, rfl, by rw [List.length_append, HLL.out]; rfl, own_byte HLL.out (by omega) hown2, (HBW.out.alloc HBW.out.size _).grown hgrow (by have := HBW.out.size; simp; omega) (fun k hk => (HOW.out.lt hk).1)⟩
          case measure => simp [intOf]; omega
      · obtain rfl : i = 6 := by omega
        have hstr := hown.str
        have hbel := HBEL.out.trans (hbw.mono HBEL.out.size)
        have HU := Lib.hid (And.intro hown (HBEL.out.trans (hbw.mono HBEL.out.size)))
        clear hown hbw hll hbel
        go_wp2_with fail
        refine (greyPicture_any _ 3 2 6 l (by decide) (by rfl) (by omega) (by omega) (by omega) (by omega) (by omega) HLL.out).mono ?_
        rintro e wG ⟨qG, cG, rfl, mG, bw⟩
        obtain ⟨ho, hbel⟩ := HU.out
        have ha : Below wG.heap.size wG (wG.alloc (.cells #[.int .i64 3, .int .i64 2, .slice (some ⟨qG, 0, none⟩) 6 cG] 41)) := alb1p _ _
        have bG := BoxN.last wG #[.int .i64 3, .int .i64 2, .slice (some ⟨qG, 0, none⟩) 6 cG] 41
        have mG5 := mG.below ha
        have ho5 := (ho.below bw).below ha
        have hbel5 := (hbel.trans (bw.mono hbel.size)).trans (ha.mono (Nat.le_trans hbel.size bw.size))
        obtain ⟨z0, z1, z2, -, -, -⟩ := bG.three.cells
        obtain ⟨W5, hW5⟩ : ∃ W, W = wG.alloc (.cells #[.int .i64 3, .int .i64 2, .slice (some ⟨qG, 0, none⟩) 6 cG] 41) := ⟨_, rfl⟩
        have HF := Lib.hid (show SlF W5 (.slice (some ⟨qG, 0, none⟩) 6 cG) (l.map fun b => gW b.toNat) ∧ OwnU W5 wX.heap.size v l ∧ Below w.heap.size w W5 by rw [hW5]; exact ⟨mG5, ho5, hbel5⟩)
        have HW5 := Lib.hid hW5
        clear mG mG5 ho ho5 hbel hbel5 ha bw bG hW5 hstr
        go_wp2_with fail
        rw [← HW5.out]
        refine (greyBytes_any _ 3 2 6 qG cG l (by decide) HLL.out (by omega) HF.out.1).mono ?_
        rintro e wH ⟨rfl, bw⟩
        obtain ⟨-, ho, hbel⟩ := HF.out
        have hstr := (ho.below bw).str
        have hbelF := hbel.trans (bw.mono hbel.size)
        clear ho bw hbel z0 z1 z2
        go_wp2_with fail
        go_ret
        exact ⟨rfl, hbelF⟩

theorem fnPacked_walk (w : World) (a0 a1 : Option Addr) (l0 c0 l1 c1 : Nat) (z0 z1 : List Int)
    (r0 : (a0 = none ∧ l0 = 0 ∧ c0 = 0 ∧ z0 = []) ∨ ∃ x, a0 = some x ∧ l0 ≤ c0 ∧ c0 ≤ maxLen ∧ z0.length = c0 ∧ (∀ i, i < z0.length → w.cell? (x.add i) = some (.int .u8 (z0.getD i 0))) ∧ ∀ n ∈ z0, (Lit.int .u8 n).wf = true)
    (r1 : (a1 = none ∧ l1 = 0 ∧ c1 = 0 ∧ z1 = []) ∨ ∃ x, a1 = some x ∧ l1 ≤ c1 ∧ c1 ≤ maxLen ∧ z1.length = c1 ∧ (∀ i, i < z1.length → w.cell? (x.add i) = some (.int .u8 (z1.getD i 0))) ∧ ∀ n ∈ z1, (Lit.int .u8 n).wf = true) :
    Calls Try.prog 4 #[.slice a0 l0 c0, .slice a1 l1 c1] w fun e w' => e = .returned (.bool true) ∧ Below w.heap.size w w' := by
  by_cases h : l0 ≤ 48 ∧ l1 ≤ 48
  · exact fnPacked_short w a0 a1 l0 c0 l1 c1 h.1 h.2 (bytesIn_of_row r0 (by omega)) (bytesIn_of_row r1 (by omega))
  · exact fnPacked_long w a0 a1 l0 c0 l1 c1 (len_of_row r0) (len_of_row r1) h

end Go.Proofs.Ytmncihhdkcmmmaa
