/- The law of albums: the walk of its code. No condition. -/
import Derived.Test.YtkifhajkmgeafaaZh
import Derived.Test.YtkifhajkmgeafaaZj
import Derived.Test.YtkifhajkmgeafaaZk
import Derived.Test.YtkifhajkmgeafaaZl
import Derived.Test.YtkifhajkmgeafaaZf
import Derived.Test.YtkifhajkmgeafaaLaw
import Derived.Laws.BitsAllLaws
import Derived.Deep.RegionHeld3
import Derived.StillTactics
import Derived.Deep.CutRange
import Derived.Deep.LoopGhost
namespace Go.Proofs.Ytkifhajkmgeafaa
open Go.RowKit
set_option maxRecDepth 100000
set_option linter.unusedVariables false
set_option linter.unusedSimpArgs false

theorem fnAlbums_long (w : World) (a0 a1 : Option Addr) (l0 c0 l1 c1 : Nat) (m0 : l0 ≤ 9223372036854775807) (m1 : l1 ≤ 9223372036854775807) (h : ¬ (l0 ≤ 48 ∧ l1 ≤ 48)) :
    Calls Try.prog 3 #[.slice a0 l0 c0, .slice a1 l1 c1] w fun e w' => e = .returned (.bool true) ∧ Below w.heap.size w w' := by
  go_enter Try.func3, Try.ntmps3
  go_wp2_with fail
  refine (r8Long_yes _ _ _ _ _ _ _ m0 m1 h).mono ?_
  rintro e w' ⟨rfl, rfl⟩
  go_wp2
  go_ret
  exact ⟨rfl, Below.refl _ _⟩

theorem BoxN.one {w : World} {b : Nat} {x : Value} {T : TypeId} (h : BoxN w b #[x] T) : w.cell? ⟨b, 0, none⟩ = some x := h.cell 0
theorem Sames.refl : ∀ ps, Sames ps ps
  | [] => .nil
  | p :: ps => .cons ⟨rfl, rfl, rfl⟩ (Sames.refl ps)
theorem Sames.symm {ps qs : List PicB} (h : Sames ps qs) : Sames qs ps := by
  induction h with
  | nil => exact .nil
  | cons h1 _ ih => exact .cons ⟨h1.1.symm, h1.2.1.symm, h1.2.2.symm⟩ ih
theorem Sames.trans {ps qs rs : List PicB} (h : Sames ps qs) (k : Sames qs rs) : Sames ps rs := by
  induction h generalizing rs with
  | nil => exact k
  | cons h1 _ ih => cases k with | cons k1 k2 => exact .cons ⟨h1.1.trans k1.1, h1.2.1.trans k1.2.1, h1.2.2.trans k1.2.2⟩ (ih k2)
theorem OwnA.cellx {w : World} {B g k sc j : Nat} {xs : List PicX} {x : PicX} (h : OwnA w B (.slice (some ⟨g, 0, none⟩) k sc) xs) (hk : xs.length = k) (hj : j < k) (hx : xs[j]? = some x) :
    w.cell? ⟨g, j * 3, none⟩ = some (.int .i64 (x.p.wd : Int)) ∧ w.cell? ⟨g, j * 3 + 1, none⟩ = some (.int .i64 (x.p.hi : Int)) ∧ w.cell? ⟨g, j * 3 + 2, none⟩ = some (.slice (some ⟨x.q, 0, none⟩) x.p.bs.length x.c) := by
  obtain ⟨g', x', -, hx', e, -, y1, y2, y3⟩ := h.atk hk j hj
  rw [hx] at hx'
  have e1 : x = x' := by injection hx'
  have e2 : g = g' := by
    have := congrArg (Option.map Addr.block) e
    simpa using this
  rw [e1, e2]
  exact ⟨y1, y2, y3⟩
theorem bent_byte (b : Nat) (z : Int) (hb : b < 256) (z0 : 0 ≤ z) (z1 : z ≤ 254) : ∃ y : Nat, bits .xor .u8 (b : Int) (1 + z) = (y : Int) ∧ y < 256 := by
  have h := u8_xor (b : Int) (1 + z) (by omega) (by omega) (by omega) (by omega)
  refine ⟨_, h, ?_⟩
  exact Nat.xor_lt_two_pow (n := 8) (by omega) (by omega)
theorem conv_one (y : Nat) (hy : y < 256) (W : World) (b : Nat) (h : W.cell? ⟨b, 0, none⟩ = some (.int .u8 (y : Int))) : (convert 22 9 (.slice (some ⟨b, 0, none⟩) 1 1)).run Try.prog W = .ok (.string ⟨#[UInt8.ofNat y]⟩) W := by
  refine run_convert_bytes_back W 22 9 5 ⟨b, 0, none⟩ 1 [UInt8.ofNat y] (by rfl) (by rfl) (by rfl) fun j hj => ?_
  have hj0 : j = 0 := by simpa using hj
  subst hj0
  have e : ((UInt8.ofNat y).toNat : Int) = (y : Int) := by rw [UInt8.toNat_ofNat']; omega
  show W.cell? ⟨b, 0, none⟩ = some (.int .u8 ((UInt8.ofNat y).toNat : Int))
  rw [e]; exact h
theorem albS_ext {ps qs : List PicB} {n : Nat} (h : albL qs = (albL ps).take n) : albS qs = (albS ps).extract 0 n := by
  apply ByteArray.ext; apply Array.ext'
  rw [ext_list, List.drop_zero]; exact h
theorem albS_of {qs : List PicB} {u : ByteArray} {n : Nat} (h : albL qs = u.data.toList.take n) : albS qs = u.extract 0 n := by
  apply ByteArray.ext; apply Array.ext'
  rw [ext_list, List.drop_zero]; exact h

set_option maxHeartbeats 40000000 in
theorem fnAlbums_short (w : World) (a0 a1 : Option Addr) (l0 c0 l1 c1 : Nat) (h0 : l0 ≤ 48) (h1 : l1 ≤ 48) (hb0 : BytesIn w a0 l0) (hb1 : BytesIn w a1 l1) :
    Calls Try.prog 3 #[.slice a0 l0 c0, .slice a1 l1 c1] w fun e w' => e = .returned (.bool true) ∧ Below w.heap.size w w' := by
  go_enter Try.func3, Try.ntmps3
  go_wp2_with fail
  refine (r8Long_no _ _ _ _ _ _ _ h0 h1).mono ?_
  rintro e w' ⟨rfl, rfl⟩
  go_wp2_with fail
  refine (r8Album_any _ _ _ _ hb0).mono ?_
  rintro e wA ⟨vA, xs, rfl, hx3, mA, bw⟩
  obtain ⟨sA, cA, rfl, hcA1, hcA2⟩ := mA.form
  obtain ⟨k, hk⟩ : ∃ k, xs.length = k := ⟨_, rfl⟩
  rw [hk] at hx3 mA hcA1 ⊢
  obtain ⟨ps, hps⟩ : ∃ ps, xs.map PicX.p = ps := ⟨_, rfl⟩
  have hpl : ps.length = k := by rw [← hps, List.length_map, hk]
  have hok : ∀ q ∈ ps, q.ok := fun q hq => by rw [← hps] at hq; obtain ⟨x, hx, rfl⟩ := List.mem_map.1 hq; exact (mA.pic x hx).2
  have hall : ∀ q ∈ ps, q.bs.length ≤ 256 := fun q hq => (hok q hq).dims.2.2.2.2.2.1
  have hLL := albL_len hall
  have HK := Lib.hid hk
  have HPS := Lib.hid (And.intro hps (And.intro hpl hok))
  obtain ⟨s, hs⟩ : ∃ s, albS ps = s := ⟨_, rfl⟩
  have hss : s.size = (albL ps).length := by rw [← hs, albS_size]
  have hs9 : s.size ≤ 4000 := by rw [hss]; rw [hpl] at hLL; omega
  have hwhole := recG_whole hok 8 (by omega)
  rw [hs, ← hss] at hwhole
  have HS := Lib.hid (And.intro hs (And.intro hss hwhole))
  clear hb0 hk hps hpl hok hall hLL hs hss hwhole
  have hbel := bw
  replace hb1 := hb1.below bw
  have ha : Below wA.heap.size wA (wA.alloc (.cells #[.slice sA k cA] 26)) := (Below.refl _ _).alloc (Nat.le_refl _) _
  have bA := BoxN.last wA #[.slice sA k cA] 26
  replace mA := mA.below ha
  replace hb1 := hb1.below ha
  replace hbel := hbel.trans (ha.mono hbel.size)
  clear bw ha
  have zA := bA.one
  go_wp2_with fail
  generalize hoA : wA.heap.size = oA at *
  generalize hwA : wA.alloc (.cells #[.slice sA k cA] 26) = WA at *
  clear hoA hwA
  clear zA
  refine (storeAlbum_yes _ _ _ xs mA (by rw [HK.out]; omega)).mono ?_
  rintro e wS ⟨rfl, bw⟩
  replace bA := bA.below bw
  replace mA := mA.below bw
  replace hb1 := hb1.below bw
  replace hbel := hbel.trans (bw.mono hbel.size)
  clear bw
  rw [HPS.out.1, HS.out.1]
  go_wp2_with fail
  refine (loadAlbum_any _ s (by omega) HS.out.2.2.2).mono ?_
  rintro e wB ⟨vB, xsB, rfl, mB, hsB, bw⟩
  obtain ⟨sB, cB, rfl, -, -⟩ := mB.form
  have hlB : xsB.length = k := by
    have h1 := (hsB.trans HS.out.2.2.1).length_eq
    rw [List.length_map, HPS.out.2.1] at h1; exact h1
  have HSB := Lib.hid (hsB.trans HS.out.2.2.1)
  rw [hlB] at mB ⊢
  have HLB := Lib.hid hlB
  clear hsB hlB
  have ha : Below wB.heap.size wB (wB.alloc (.cells #[.slice sB k cB] 26)) := (Below.refl _ _).alloc (Nat.le_refl _) _
  have bB := BoxN.last wB #[.slice sB k cB] 26
  replace mB := mB.below ha
  replace bA := (bA.below bw).below ha
  replace mA := (mA.below bw).below ha
  replace hb1 := (hb1.below bw).below ha
  replace hbel := (hbel.trans (bw.mono hbel.size)).trans (ha.mono (Nat.le_trans hbel.size bw.size))
  clear bw ha
  have zA := bA.one
  go_wp2_with fail
  generalize hoB : wB.heap.size = oB at *
  generalize hwB : wB.alloc (.cells #[.slice sB k cB] 26) = WB at *
  clear hoB hwB
  clear zA
  refine (validAlbum_any _ _ _ xs mA (by rw [HK.out]; omega)).mono ?_
  rintro e wC ⟨rfl, bw⟩
  replace bA := bA.below bw
  replace mA := mA.below bw
  replace hb1 := hb1.below bw
  replace bB := bB.below bw
  replace mB := mB.below bw
  replace hbel := hbel.trans (bw.mono hbel.size)
  clear bw
  rw [decide_eq_true (show xs.length ≤ 8 by rw [HK.out]; omega)]
  have zB := bB.one
  have zA := bA.one
  go_wp2_with fail
  clear zB zA
  refine (sameAlbum_yes _ _ _ _ _ xsB xs mB mA (by rw [HLB.out]; omega) (by rw [HPS.out.1]; exact HSB.out)).mono ?_
  rintro e wD ⟨rfl, bw⟩
  replace bA := bA.below bw
  replace mA := mA.below bw
  replace hb1 := hb1.below bw
  replace bB := bB.below bw
  replace mB := mB.below bw
  replace hbel := hbel.trans (bw.mono hbel.size)
  clear bw
  go_wp2_with fail
  refine (r8At_any _ _ _ _ 0 256 (by omega) (by omega) (by omega) hb1).mono ?_
  rintro e w' ⟨x, rfl, x0, x1, rfl⟩
  go_wp2_with fail
  refine (r8At_any _ _ _ _ 1 256 (by omega) (by omega) (by omega) hb1).mono ?_
  rintro e w' ⟨y, rfl, y0, y1, rfl⟩
  go_upto_region 10 with fail
  obtain ⟨A, hA, hA2⟩ : ∃ A : Nat, (256 * x + y) % ((s.size : Int) + 1) = (A : Int) ∧ A ≤ s.size := by
    have h1 := Int.emod_nonneg (256 * x + y) (show ((s.size : Int) + 1) ≠ 0 by omega)
    have h2 := Int.emod_lt_of_pos (256 * x + y) (show 0 < ((s.size : Int) + 1) by omega)
    exact ⟨((256 * x + y) % ((s.size : Int) + 1)).toNat, by omega, by omega⟩
  rw [hA]
  clear hA x0 x1 y0 y1
  have hAI : (A : Int) ≤ (s.size : Int) := by omega
  obtain ⟨t, ht⟩ : ∃ t, s.extract 0 A = t := ⟨_, rfl⟩
  have htz : t.size ≤ 4000 := by rw [← ht, ByteArray.size_extract]; omega
  have htl : t.data.toList = (albL ps).take A := by rw [← ht, ext_list, List.drop_zero, ← HS.out.1]; rfl
  have hcut := recG_cut (m := 8) HPS.out.2.2 (by rw [HPS.out.2.1]; omega) (by rw [← HS.out.2.1]; exact hA2) htl
  have HT := Lib.hid (And.intro ht htl)
  have HCUT := Lib.hid hcut
  clear htl hcut
  go_wp2_with fail
  clear ht
  refine (recoverAlbum_any _ t (by omega)).mono ?_
  rintro e wF ⟨vF, xsF, rfl, mF, hsF, bw⟩
  obtain ⟨sF, cF, rfl, hcF1, hcF2⟩ := mF.form
  obtain ⟨n, hn⟩ : ∃ n, (recG t 8).2 = n := ⟨_, rfl⟩
  obtain ⟨j, hj⟩ : ∃ j, xsF.length = j := ⟨_, rfl⟩
  have hjl : (recG t 8).1.length = j := by rw [← hsF.length_eq, List.length_map, hj]
  have hj8 : j ≤ 8 := by rw [← hjl]; exact recG_le t 8
  have hF := HCUT.out
  rw [hjl, hn, HPS.out.2.1, ← HS.out.2.1] at hF
  obtain ⟨f1, f2, f3, f4, f5⟩ := hF
  have hown : albS (xsF.map PicX.p) = s.extract 0 n := by
    rw [← HS.out.1]; exact albS_ext (by rw [albL_same hsF]; exact f1)
  rw [hn]
  rw [hj] at mF ⊢
  rw [hj] at hcF1
  have HN := Lib.hid (And.intro hn (And.intro hj (And.intro f4 (And.intro f5 hown))))
  clear hn hj hjl hsF f1 f4 f5 hown
  have ha : Below wF.heap.size wF (wF.alloc (.cells #[.slice sF j cF] 26)) := (Below.refl _ _).alloc (Nat.le_refl _) _
  have bF := BoxN.last wF #[.slice sF j cF] 26
  replace mF := mF.below ha
  replace bA := (bA.below bw).below ha
  replace mA := (mA.below bw).below ha
  replace hb1 := (hb1.below bw).below ha
  replace bB := (bB.below bw).below ha
  replace mB := (mB.below bw).below ha
  replace hbel := (hbel.trans (bw.mono hbel.size)).trans (ha.mono (Nat.le_trans hbel.size bw.size))
  clear bw ha
  have zF := bF.one
  go_wp2_with fail
  generalize hoF : wF.heap.size = oF at *
  generalize hwF : wF.alloc (.cells #[.slice sF j cF] 26) = WF at *
  clear hoF hwF
  clear zF
  refine (storeAlbum_yes _ _ _ xsF mF (by rw [HN.out.2.1]; omega)).mono ?_
  rintro e wO ⟨rfl, bw⟩
  replace bA := bA.below bw
  replace mA := mA.below bw
  replace hb1 := hb1.below bw
  replace bB := bB.below bw
  replace mB := mB.below bw
  replace bF := bF.below bw
  replace mF := mF.below bw
  replace hbel := hbel.trans (bw.mono hbel.size)
  clear bw
  rw [HN.out.2.2.2.2]
  have hnI : (n : Int) ≤ (A : Int) := by omega
  have hnJ : (n : Int) ≤ (s.size : Int) := by omega
  have hjI : (j : Int) ≤ (k : Int) := by omega
  have hnd : decide ((A : Int) < (n : Int)) = false := decide_eq_false (by omega)
  have hjd : decide ((k : Int) < (j : Int)) = false := decide_eq_false (by omega)
  have hnd2 : decide (A < n) = false := decide_eq_false (by omega)
  have hjd2 : decide (k < j) = false := decide_eq_false (by omega)
  have hnn : ((s.extract 0 n).toList == (s.extract 0 n).toList) = true := by simp
  have zA := bA.one
  have zF := bF.one
  go_upto_if 120 with fail
  clear zA zF hnd hjd hnn hnd2 hjd2
  go_cut [] from 114 to 180 (fun wx => Below wO.heap.size wO wx)
  case first =>
    have hbel := Below.refl wO.heap.size wO
    by_cases hjk : j < k
    · have hjkI : (j : Int) < (k : Int) := by omega
      have hjkd : decide ((j : Int) < (k : Int)) = true := decide_eq_true hjkI
      obtain ⟨g, x, hx, hxi, rfl, -, -, -, -⟩ := mA.atk HK.out j hjk
      have hbig := HN.out.2.2.1 hjk
      have hsl := mA.pic x hx
      obtain ⟨d1, d2, d3, d4, d5, d6, d7⟩ := hsl.2.dims
      have HX := Lib.hid (And.intro hx (And.intro hxi hsl.2))
      have KSL := Lib.hid (fun W c (hc : c ≤ k) (hW : Below wO.heap.size wO W) => sliceAlbum_yes W _ g k cA c xs (mA.below hW) HK.out (by omega) hc)
      have HBIG := Lib.hid hbig
      clear hbig hsl hx hxi d1 d2 d3 d4 d5 d6
      have KS1 := KSL.out wO (j + 1) (by omega) (Below.refl _ _)
      rw [show ((j + 1 : Nat) : Int) = (j : Int) + 1 by omega] at KS1
      have KS1 := Lib.hid KS1
      have zA := bA.one
      have zF := bF.one
      go_wp2_with fail
      clear zA zF
      refine KS1.out.mono ?_
      rintro e wL ⟨vL, xsL, rfl, mL, hmL, bw⟩
      obtain ⟨sL, cL, rfl, -, -⟩ := mL.form
      have hlL : xsL.length = j + 1 := by
        have h1 := congrArg List.length hmL
        rw [List.length_map, HPS.out.1, List.length_take, HPS.out.2.1] at h1; omega
      rw [hlL] at mL ⊢
      rw [HPS.out.1] at hmL
      have HLL := Lib.hid (And.intro hlL hmL)
      clear hlL hmL
      have ha : Below wL.heap.size wL (wL.alloc (.cells #[.slice sL (j + 1) cL] 26)) := (Below.refl _ _).alloc (Nat.le_refl _) _
      have bL := BoxN.last wL #[.slice sL (j + 1) cL] 26
      replace mL := mL.below ha
      replace bA := (bA.below bw).below ha
      replace mA := (mA.below bw).below ha
      replace hb1 := (hb1.below bw).below ha
      replace bB := (bB.below bw).below ha
      replace mB := (mB.below bw).below ha
      replace bF := (bF.below bw).below ha
      replace mF := (mF.below bw).below ha
      replace hbel := (hbel.trans (bw.mono hbel.size)).trans (ha.mono (Nat.le_trans hbel.size bw.size))
      clear bw ha
      have zL := bL.one
      go_wp2_with fail
      generalize hoL : wL.heap.size = oL at *
      generalize hwL : wL.alloc (.cells #[.slice sL (j + 1) cL] 26) = WL at *
      clear hoL hwL
      clear zL
      refine (storeAlbum_yes _ _ _ xsL mL (by rw [HLL.out.1]; omega)).mono ?_
      rintro e wM ⟨rfl, bw⟩
      replace bA := bA.below bw
      replace mA := mA.below bw
      replace hb1 := hb1.below bw
      replace bB := bB.below bw
      replace mB := mB.below bw
      replace bF := bF.below bw
      replace mF := mF.below bw
      replace bL := bL.below bw
      replace mL := mL.below bw
      replace hbel := hbel.trans (bw.mono hbel.size)
      clear bw
      rw [HLL.out.2]
      obtain ⟨nx, hnx⟩ : ∃ nx, albS (ps.take (j + 1)) = nx := ⟨_, rfl⟩
      rw [hnx]
      have hnxz : A < nx.size := by rw [← hnx, albS_size]; exact HBIG.out
      have hnxd : decide ((nx.size : Int) ≤ (A : Int)) = false := decide_eq_false (by omega)
      have hnxe : ¬ (nx.size : Int) ≤ (A : Int) := by omega
      clear hnx
      have KS2 := Lib.hid (KSL.out wM j (by omega) hbel)
      have zA := bA.one
      have zF := bF.one
      go_wp2_with fail
      clear zA zF
      refine KS2.out.mono ?_
      rintro e wN ⟨vN, xsN, rfl, mN, hmN, bw⟩
      obtain ⟨sN, cN, rfl, -, -⟩ := mN.form
      have hlN : xsN.length = j := by
        have h1 := congrArg List.length hmN
        rw [List.length_map, HPS.out.1, List.length_take, HPS.out.2.1] at h1; omega
      rw [hlN] at mN ⊢
      rw [HPS.out.1] at hmN
      have HLN := Lib.hid (And.intro hlN hmN)
      clear hlN hmN
      have ha : Below wN.heap.size wN (wN.alloc (.cells #[.slice sN j cN] 26)) := (Below.refl _ _).alloc (Nat.le_refl _) _
      have bN := BoxN.last wN #[.slice sN j cN] 26
      replace mN := mN.below ha
      replace bA := (bA.below bw).below ha
      replace mA := (mA.below bw).below ha
      replace hb1 := (hb1.below bw).below ha
      replace bB := (bB.below bw).below ha
      replace mB := (mB.below bw).below ha
      replace bF := (bF.below bw).below ha
      replace mF := (mF.below bw).below ha
      replace bL := (bL.below bw).below ha
      replace mL := (mL.below bw).below ha
      replace hbel := (hbel.trans (bw.mono hbel.size)).trans (ha.mono (Nat.le_trans hbel.size bw.size))
      clear bw ha
      have zA := bA.one
      have zF := bF.one
      go_upto_region 18 with fail
      generalize hoN : wN.heap.size = oN at *
      generalize hwN : wN.alloc (.cells #[.slice sN j cN] 26) = WN at *
      clear hoN hwN
      clear zA zF
      go_cut [23, 24] from 143 to 154 (fun v23 v24 wx => ∃ (o : Nat) (v : Value) (ys : List PicX) (B : Nat), v23 = .pointer (some ⟨o, 0, none⟩) ∧ v24 = .bool true ∧ BoxN wx o #[v] 26 ∧ OwnA wx B v ys ∧ ys.map PicX.p = ps.take (j + 1) ∧ Below WN.heap.size WN wx)
      case first =>
        have hsx := (mA.pic x HX.out.1).1.sl
        have hj7 : j ≤ 7 := by omega
        have htk : ps.take j ++ [x.p] = ps.take (j + 1) := by
          have hl : j < ps.length := by rw [HPS.out.2.1]; exact hjk
          rw [List.take_succ_eq_append_getElem hl]
          congr 1
          have e : ps[j]? = some x.p := by rw [← HPS.out.1, List.getElem?_map, HX.out.2.1]; rfl
          rw [List.getElem?_eq_getElem hl] at e; injection e with e; rw [e]
        have KAP := Lib.hid (fun W (hW : Below WN.heap.size WN W) => addPicture_yes W _ sN j cN xsN x (mN.below hW) HLN.out.1 hj7 (hsx.below hW) HX.out.2.2)
        rw [HLN.out.2, htk] at KAP
        have CELLS := Lib.hid (show ∀ W, Below WN.heap.size WN W → W.cell? ⟨oN, 0, none⟩ = some (.slice sN j cN) ∧ W.cell? ⟨oA, 0, none⟩ = some (.slice (some ⟨g, 0, none⟩) k cA) ∧ W.cell? ⟨oF, 0, none⟩ = some (.slice sF j cF) ∧ W.cell? ⟨g, j * 3, none⟩ = some (.int .i64 (x.p.wd : Int)) ∧ W.cell? ⟨g, j * 3 + 1, none⟩ = some (.int .i64 (x.p.hi : Int)) ∧ W.cell? ⟨g, j * 3 + 2, none⟩ = some (.slice (some ⟨x.q, 0, none⟩) x.p.bs.length x.c) from fun W hW => by
          obtain ⟨y1, y2, y3⟩ := (mA.below hW).cellx HK.out hjk HX.out.2.1
          exact ⟨(bN.below hW).one, (bA.below hW).one, (bF.below hW).one, y1, y2, y3⟩)
        have hq0 : Below WN.heap.size WN WN.drew := below_drewN (Below.refl _ _) 1
        have hqa : Below WN.heap.size WN (WN.alloc (.cells #[.slice none 0 0] 26)) := (Below.refl _ _).alloc (Nat.le_refl _) _
        have hq1 : Below WN.heap.size WN (WN.alloc (.cells #[.slice none 0 0] 26)).drew := below_drewN hqa 1
        have bq1 : BoxN (WN.alloc (.cells #[.slice none 0 0] 26)).drew WN.heap.size #[.slice none 0 0] 26 := (BoxN.last WN #[.slice none 0 0] 26).drewN 1
        obtain ⟨y0, y1, y2, y3, y4, y5⟩ := CELLS.out WN (Below.refl _ _)
        unfold PicX.sl at KAP
        generalize x.p.wd = pwd at *
        generalize x.p.hi = phi at *
        generalize x.p.bs.length = pn at *
        clear bA bB bF bL bN mA mB mF mL mN hb1 hbel hsx htk
        go_region_held3 (fun W => W.cell? ⟨oN, 0, none⟩ = some (.slice sN j cN) ∧ W.cell? ⟨oA, 0, none⟩ = some (.slice (some ⟨g, 0, none⟩) k cA) ∧ W.cell? ⟨oF, 0, none⟩ = some (.slice sF j cF) ∧ W.cell? ⟨g, j * 3, none⟩ = some (.int .i64 (pwd : Int)) ∧ W.cell? ⟨g, j * 3 + 1, none⟩ = some (.int .i64 (phi : Int)) ∧ W.cell? ⟨g, j * 3 + 2, none⟩ = some (.slice (some ⟨x.q, 0, none⟩) pn x.c))
          (first | (refine CELLS.out _ ?_; first | exact hbC | (with_reducible exact hbD _) | (with_reducible exact hbE _) | exact hq0 | exact hq1) | fail)
          ((go_at_call 17; first | ((with_reducible refine (KAP.out _ hq0).mono ?_); rintro e wQ ⟨vQ, ys, rfl, mQ, hmQ, hbq⟩; obtain ⟨sQ, cQ, rfl, -, -⟩ := mQ.form; have hbC := hq0.trans (hbq.mono hq0.size); have hbD : ∀ o, Below WN.heap.size WN (wQ.alloc o) := (fun o => hbC.alloc hbC.size o)) | ((with_reducible refine (KAP.out _ hq1).mono ?_); rintro e wQ ⟨vQ, ys, rfl, mQ, hmQ, hbq⟩; obtain ⟨sQ, cQ, rfl, -, -⟩ := mQ.form; have hbC := hq1.trans (hbq.mono hq1.size); have r9 := bq1.below hbq; have r0 : wQ.cell? ⟨WN.heap.size, 0, none⟩ = some (.slice none 0 0) := r9.cell 0; have r1 : wQ.frozen? ⟨WN.heap.size, 0, none⟩ = false := r9.free 0; have r2 := r9.lt; have hbE : ∀ u, Below WN.heap.size WN (wQ.setCell ⟨WN.heap.size, 0, none⟩ u) := (fun u => hbC.setCell (p := ⟨WN.heap.size, 0, none⟩) (Nat.le_refl _) u))))
        all_goals
          go_wp2_with fail
          go_meet
          first
            | exact ⟨_, _, ys, _, rfl, rfl, BoxN.last wQ _ _, mQ.below ((Below.refl _ _).alloc (Nat.le_refl _) _), hmQ, hbD _⟩
            | exact ⟨WN.heap.size, .slice sQ ys.length cQ, ys, _, rfl, rfl, by have h9 := r9.set 0 (.slice sQ ys.length cQ); simpa using h9, mQ.set (a := ⟨WN.heap.size, 0, none⟩) (by show WN.heap.size < (WN.alloc _).heap.size; simp) _, hmQ, hbE _⟩
      case rest =>
        obtain ⟨oQ, vQ, ys, BQ, rfl, rfl, bQ, mQ, hmQ, bw⟩ := hcut
        obtain ⟨sQ, cQ, rfl, -, -⟩ := mQ.form
        replace bA := bA.below bw
        replace mA := mA.below bw
        replace hb1 := hb1.below bw
        replace bB := bB.below bw
        replace mB := mB.below bw
        replace bF := bF.below bw
        replace mF := mF.below bw
        replace bL := bL.below bw
        replace mL := mL.below bw
        replace bN := bN.below bw
        replace mN := mN.below bw
        replace hbel := hbel.trans (bw.mono hbel.size)
        clear bw
        have hyl : ys.length = j + 1 := by
          have h1 := congrArg List.length hmQ
          rw [List.length_map, List.length_take, HPS.out.2.1] at h1; omega
        rw [hyl] at bQ mQ
        have HYL := Lib.hid (And.intro hyl hmQ)
        clear hyl hmQ
        have zQ := bQ.one
        have zL := bL.one
        go_wp2_with fail
        clear zQ zL
        refine (sameAlbum_yes _ _ _ _ _ ys xsL mQ mL (by rw [HYL.out.1]; omega) (by rw [HYL.out.2, HLL.out.2]; exact Sames.refl _)).mono ?_
        rintro e wU ⟨rfl, bw⟩
        replace hbel := hbel.trans (bw.mono hbel.size)
        go_wp2_with fail
        go_meet
        exact hbel
    · have hjkI : ¬ (j : Int) < (k : Int) := by omega
      have zA := bA.one
      have zF := bF.one
      have hjkd : decide ((j : Int) < (k : Int)) = false := decide_eq_false hjkI
      go_wp2_with fail
      go_meet
      exact hbel
  case rest =>
    have bw := hcut
    clear hcut
    replace bA := bA.below bw
    replace mA := mA.below bw
    replace hb1 := hb1.below bw
    replace bB := bB.below bw
    replace mB := mB.below bw
    replace bF := bF.below bw
    replace mF := mF.below bw
    replace hbel := hbel.trans (bw.mono hbel.size)
    clear bw
    by_cases hAe : A = s.size
    · have hnA : n = s.size := by rw [HN.out.2.2.2.1 (by rw [hAe])]; exact hAe
      have hAd : ((A : Int) == (s.size : Int)) = true := by rw [hAe]; simp
      have hnd : ((n : Int) == (s.size : Int)) = true := by rw [hnA]; simp
      go_wp2_with fail
      go_ret
      exact ⟨rfl, hbel⟩
    · have hAd : ((A : Int) == (s.size : Int)) = false := by rw [beq_eq_false_iff_ne]; omega
      have hAd2 : (A == s.size) = false := by rw [beq_eq_false_iff_ne]; exact hAe
      have hAl : (A : Int) < (s.size : Int) := by omega
      obtain ⟨b0, hb0⟩ : ∃ b, byteN s A = b := ⟨_, rfl⟩
      have hb0l : b0 < 256 := by rw [← hb0]; exact byteN_lt s A
      have hidx : ∀ W', (Instr.index 9 (.string s) (.int .i64 (A : Int))).run Try.prog W' = .ok (.int .u8 ((b0 : Nat) : Int)) W' := fun W' => by
        have := idx_at W' s (A : Int) (by omega) (by omega)
        rwa [Int.toNat_natCast, hb0] at this
      have hA9 : A ≤ 4000 := by omega
      have hbg1 : (9223372036854775807 < A + 1) = False := eq_false (by omega)
      have hbg2 : (9223372036854775807 < A + 1 + (s.size - (A + 1))) = False := eq_false (by omega)
      have hz1 : (s.extract 0 A).size = A := by rw [ByteArray.size_extract]; omega
      have hz2 : (s.extract (A + 1) s.size).size = s.size - (A + 1) := by rw [ByteArray.size_extract]; omega
      have hA1 : (A : Int) + 1 ≤ (s.size : Int) := by omega
      have hA3 : (0 : Int) ≤ (A : Int) + 1 := by omega
      have hA4 : ((A : Int) + 1).toNat = A + 1 := by omega
      have hw1 : IntKind.i64.wrap ((A : Int) + 1) = (A : Int) + 1 := IntWalk.i64_in _ (by omega)
      have hD0 : Below wc.heap.size wc wc.drew := below_drewN (Below.refl _ _) 1
      have hbD := hb1.below hD0
      clear hb0
      go_upto_region 23 with fail
      go_region_law ((go_simp; refine (r8At_any _ _ _ _ 2 255 (by omega) (by omega) (by omega) hbD).mono ?_; rintro e w' ⟨z, rfl, z0, z1, rfl⟩; obtain ⟨y, hy, hy2⟩ := bent_byte b0 z hb0l z0 (by omega); have hwz : IntKind.u8.wrap (1 + z) = 1 + z := IntWalk.u8_in _ (by omega); have hwi : IntKind.i64.wrap (1 + z) = 1 + z := IntWalk.i64_in _ (by omega); have hcv := conv_one y hy2 (wc.alloc (.cells #[.int .u8 (y : Int)] 5)).drew wc.heap.size ((BoxN.last wc #[.int .u8 (y : Int)] 5).cell 0); have hzb : ({ data := #[UInt8.ofNat y] } : ByteArray).size = 1 := rfl))
      all_goals
        obtain ⟨u, hu⟩ : ∃ u, s.extract 0 A ++ { data := #[UInt8.ofNat y] } ++ s.extract (A + 1) s.size = u := ⟨_, rfl⟩
        have hut : u.data.toList.take A = (albL ps).take A := by
          rw [← hu, ba_app, ba_app, List.append_assoc, HT.out.1, HT.out.2, List.take_append_of_le_length (by rw [List.length_take, ← HS.out.2.1]; omega), List.take_take, Nat.min_self]
        have huz : u.size ≤ 9000 := by
          rw [← hu, ByteArray.size_append, ByteArray.size_append, hz1, hz2, hzb]; omega
        have hbent := recG_bent (m := 8) HPS.out.2.2 (by rw [HPS.out.2.1]; omega) (by rw [← HS.out.2.1]; exact hA2) HT.out.2 hut
        rw [HN.out.1] at hbent
        have HBENT := Lib.hid hbent
        have hal : Below wc.heap.size wc (wc.alloc (.cells #[.int .u8 (y : Int)] 5)) := (Below.refl _ _).alloc (Nat.le_refl _) _
        have hal2 : Below wc.heap.size wc (wc.alloc (.cells #[.int .u8 (y : Int)] 5)).drew := below_drewN hal 1
        have hbelV := hbel.trans (hal2.mono hbel.size)
        clear hut hbent hal hal2 hcv hidx hwi hwz hy hbg1 hbg2 hz1 hz2 hzb hD0 hbD hb1 mA bA mB bB mF bF hbel
        go_wp2_with fail
        refine (recoverAlbum_any _ u (by omega)).mono ?_
        rintro e wG ⟨vG, xsG, rfl, mG, hsG, bw⟩
        obtain ⟨sG, cG, rfl, hcG1, hcG2⟩ := mG.form
        obtain ⟨m, hm⟩ : ∃ m, (recG u 8).2 = m := ⟨_, rfl⟩
        have hl8 : xsG.length ≤ 8 := by
          have h1 := hsG.length_eq
          rw [List.length_map] at h1
          rw [h1]; exact recG_le u 8
        have hF := HBENT.out
        rw [hm] at hF ⊢
        obtain ⟨f6, f7, f8⟩ := hF
        have hown : albS (xsG.map PicX.p) = u.extract 0 m := albS_of (by rw [albL_same hsG]; exact f8)
        have hal : Below wG.heap.size wG (wG.alloc (.cells #[.slice sG xsG.length cG] 26)) := (Below.refl _ _).alloc (Nat.le_refl _) _
        have zG := (BoxN.last wG #[.slice sG xsG.length cG] 26).one
        have mG2 := mG.below hal
        have hbelG := (hbelV.trans (bw.mono hbelV.size)).trans (hal.mono (Nat.le_trans hbelV.size bw.size))
        have HO := Lib.hid hown
        clear hu hm f8 hown hal bw hbelV mG hsG
        go_wp2_with fail
        refine (storeAlbum_yes _ _ _ xsG mG2 hl8).mono ?_
        rintro e wH ⟨rfl, bw⟩
        have hbelH := hbelG.trans (bw.mono hbelG.size)
        rw [HO.out]
        have hmn : decide ((n : Int) ≤ (m : Int)) = true := decide_eq_true (by omega)
        have hmn2 : decide (n ≤ m) = true := decide_eq_true (by omega)
        have hmu : decide ((m : Int) ≤ (u.size : Int)) = true := decide_eq_true (by omega)
        have hmu2 : decide (m ≤ u.size) = true := decide_eq_true (by omega)
        have hmI : (m : Int) ≤ (u.size : Int) := by omega
        have hnn : ((u.extract 0 m).toList == (u.extract 0 m).toList) = true := by simp
        clear zG mG2 bw hbelG
        go_wp2_with fail
        go_ret
        exact ⟨rfl, hbelH⟩

theorem fnAlbums_walk (w : World) (a0 a1 : Option Addr) (l0 c0 l1 c1 : Nat) (z0 z1 : List Int)
    (r0 : (a0 = none ∧ l0 = 0 ∧ c0 = 0 ∧ z0 = []) ∨ ∃ x, a0 = some x ∧ l0 ≤ c0 ∧ c0 ≤ maxLen ∧ z0.length = c0 ∧ (∀ i, i < z0.length → w.cell? (x.add i) = some (.int .u8 (z0.getD i 0))) ∧ ∀ n ∈ z0, (Lit.int .u8 n).wf = true)
    (r1 : (a1 = none ∧ l1 = 0 ∧ c1 = 0 ∧ z1 = []) ∨ ∃ x, a1 = some x ∧ l1 ≤ c1 ∧ c1 ≤ maxLen ∧ z1.length = c1 ∧ (∀ i, i < z1.length → w.cell? (x.add i) = some (.int .u8 (z1.getD i 0))) ∧ ∀ n ∈ z1, (Lit.int .u8 n).wf = true) :
    Calls Try.prog 3 #[.slice a0 l0 c0, .slice a1 l1 c1] w fun e w' => e = .returned (.bool true) ∧ Below w.heap.size w w' := by
  by_cases h : l0 ≤ 48 ∧ l1 ≤ 48
  · exact fnAlbums_short w a0 a1 l0 c0 l1 c1 h.1 h.2 (bytesIn_of_row r0 (by omega)) (bytesIn_of_row r1 (by omega))
  · exact fnAlbums_long w a0 a1 l0 c0 l1 c1 (len_of_row r0) (len_of_row r1) h

end Go.Proofs.Ytkifhajkmgeafaa
