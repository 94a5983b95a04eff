/- raw: all ways along a direction. -/
import Derived.Test.YtfhlpabbacopjaaJo
import Derived.Test.YtfhlpabbacopjaaPs
namespace Go.Proofs.Ytfhlpabbacopjaa
open Go.RowKit
set_option maxRecDepth 100000
set_option linter.unusedVariables false
set_option linter.unusedSimpArgs false

/-- A cell's costs along all ways; half done. -/
def rawF (one more : Int) (own b : List Int) : List Int := (List.range own.length).map fun d => jumpAt b one more d + own.getD d 0
def rawD (one more : Int) (own b : List Int) (d : Nat) : List Int := (List.range own.length).map fun k => if k < d then jumpAt b one more k + own.getD k 0 else jumpAt b one more k
theorem rawF_length (one more : Int) (own b : List Int) : (rawF one more own b).length = own.length := by simp [rawF]
theorem rawF_get (one more : Int) (own b : List Int) (d : Nat) (h : d < own.length) : (rawF one more own b).getD d 0 = jumpAt b one more d + own.getD d 0 := getD_range_map _ _ _ h
theorem rawD_zero (one more : Int) (own b : List Int) (h : own.length = b.length) : rawD one more own b 0 = jumpI b one more := by
  unfold rawD jumpI; rw [h]; exact List.map_congr_left fun k _ => if_neg (Nat.not_lt_zero _)
theorem rawD_all (one more : Int) (own b : List Int) : rawD one more own b own.length = rawF one more own b := by
  unfold rawD rawF; exact List.map_congr_left fun k hk => if_pos (List.mem_range.1 hk)
theorem rawD_length (one more : Int) (own b : List Int) (d : Nat) : (rawD one more own b d).length = own.length := by simp [rawD]
theorem rawD_get (one more : Int) (own b : List Int) (d k : Nat) (h : k < own.length) : (rawD one more own b d).getD k 0 = if k < d then jumpAt b one more k + own.getD k 0 else jumpAt b one more k := getD_range_map _ _ _ h
theorem rawD_step (one more : Int) (own b : List Int) (d : Nat) (h : d < own.length) : rawD one more own b (d + 1) = (rawD one more own b d).set d (jumpAt b one more d + own.getD d 0) := by
  apply ext_getD
  · simp [rawD_length]
  · intro k hk
    rw [rawD_length] at hk
    rw [rawD_get _ _ _ _ _ _ hk]
    by_cases e : k = d
    · subst e
      rw [getD_set_self _ _ (by rw [rawD_length]; exact hk), if_pos (by omega)]
    · rw [getD_set_ne _ _ (Ne.symm e), rawD_get _ _ _ _ _ _ hk]
      by_cases h1 : k < d
      · rw [if_pos h1, if_pos (by omega)]
      · rw [if_neg h1, if_neg (by omega)]

theorem qb2_ofB {l : List Int} {dp : Nat} (hl : l.length = dp) (h : ∀ d, d < dp → 0 ≤ l.getD d 0 ∧ l.getD d 0 ≤ 100) : qb2 l := by
  intro k hk
  obtain ⟨i, hi, rfl⟩ := List.getElem_of_mem hk
  have := h i (by rw [← hl]; exact hi)
  rw [List.getD_eq_getElem?_getD, List.getElem?_eq_getElem hi, Option.getD_some] at this
  omega

set_option maxHeartbeats 2000000 in
theorem raw1_any (w : World) (b1 o1 c1 b2 o2 c2 n pb : Nat) (own ks : List Int) (one more : Int) (x y u t : Int)
    (h1 : SlF w (.slice (some ⟨b1, o1, none⟩) n c1) (own.map (fq 2))) (l1 : b1 < w.heap.size) (hn1 : own.length = n) (hb1 : qb2 own)
    (h2 : SlF w (.slice (some ⟨b2, o2, none⟩) n c2) (ks.map (fq 2))) (l2 : b2 < w.heap.size) (hn2 : ks.length = n) (hb2 : qb3 ks)
    (hp : BoxN w pb #[.float .f32 (fq 2 one), .float .f32 (fq 2 more)] 30)
    (p1 : 0 ≤ one) (p2 : one ≤ more) (p4 : more ≤ 1000000) (hn : 1 ≤ n) (hn8 : n ≤ 8) :
    Calls Try.prog 93 #[.slice (some ⟨b1, o1, none⟩) n c1, .slice (some ⟨b2, o2, none⟩) n c2, .int .i64 x, .int .i64 y, .int .i64 u, .int .i64 t, .pointer (some ⟨pb, 0, none⟩)] w (MakesQ w (rawF one more own ks)) := by
  have zp0 := hp.cell 0
  have zp1 := hp.cell 1
  simp only [List.size_toArray, List.length_cons, List.length_nil, List.getElem?_toArray, List.getElem?_cons_zero, List.getElem?_cons_succ] at zp0 zp1
  have KJ := Lib.hid (jump_any w b2 o2 n c2 ks one more h2 hn2 l2 hb2 p1 (by omega) (by omega) p4 hn hn8)
  have H1 := Lib.hid h1
  have HN1 := Lib.hid hn1
  have HN2 := Lib.hid hn2
  generalize hvo : fq 2 one = vo at *
  generalize hvm : fq 2 more = vm at *
  clear h1 h2 hn1 hn2 hp hvo hvm
  go_enter Try.func93, Try.ntmps93
  go_wp2_with fail
  clear zp0 zp1
  refine KJ.out.mono ?_
  rintro e w2 ⟨g, c, rfl, hown, bw2⟩
  have hjl : (jumpI ks one more).length = n := by unfold jumpI; rw [List.length_map, List.length_range, HN2.out]
  rw [hjl] at hown ⊢
  have t1 := H1.out.below bw2
  have z2 := bw2.size
  have BW2 := Lib.hid bw2
  have T1 := Lib.hid t1
  have hgB := (hown.lt (k := g) rfl)
  have start : OwnF w2 w.heap.size (.slice (some ⟨g, 0, none⟩) n c) ((rawD one more own ks 0).map (fq 2)) := by rw [rawD_zero _ _ _ _ (by rw [HN1.out, HN2.out])]; exact hown
  clear t1 hjl bw2 hown
  go_wp2_with fail
  go_loopw [21] (fun v21 wr => ∃ d : Nat, v21 = .int .i64 d ∧ d ≤ n ∧ OwnF wr w.heap.size (.slice (some ⟨g, 0, none⟩) n c) ((rawD one more own ks d).map (fq 2)) ∧ w2.grownBy wr (some g)) (fun v21 _ => n - (intOf v21).toNat)
  case atStart => exact ⟨0, rfl, Nat.zero_le _, start, grown_refl _ _⟩
  case round =>
    clear start
    obtain ⟨d, rfl, hd, hown, hg⟩ := hrel
    by_cases hlt : d < n
    · have k1 := (hown.sl.at d (by rw [List.length_map, rawD_length, HN1.out]; exact hlt)).1
      rw [getD_map_fq 2 _ d (by rw [rawD_length, HN1.out]; exact hlt), rawD_get _ _ _ _ _ _ (by rw [HN1.out]; exact hlt), if_neg (by omega), Nat.zero_add] at k1
      have hs2 : SlF wr (.slice (some ⟨b1, o1, none⟩) n c1) (own.map (fq 2)) := ⟨T1.out.1.grown hg (.inr (by simp [Value.ownBlock]; omega)), T1.out.2⟩
      have k2 := (hs2.at d (by rw [List.length_map, HN1.out]; exact hlt)).1
      rw [getD_map_fq 2 _ d (by rw [HN1.out]; exact hlt)] at k2
      have kf : wr.frozen? ⟨g, d, none⟩ = false := World.ownsRow.frozenAt (n := n) (by have := hown.1; rw [List.length_map, rawD_length, HN1.out] at this; exact this) d
      have go := hb1.get d
      have jl := jumpAt_ge (b := ks) (d := d) p1 (show (0 : Int) ≤ more by omega) (by rw [HN2.out]; exact hlt)
      have jh := jumpAt_le_own ks one more d
      have jb := hb2.get d
      have jm := hb2 _ (minL_mem (List.ne_nil_of_length_pos (by rw [HN2.out]; omega)))
      have hst := rawD_step one more own ks d (by rw [HN1.out]; exact hlt)
      have HST := Lib.hid hst
      clear hst
      generalize own.getD d 0 = z at *
      generalize jumpAt ks one more d = j at *
      generalize minL ks = m at *
      generalize ks.getD d 0 = kd at *
      have a2 := fq_add (g := 2) (a := j) (b := z) (by omega) (by omega) (by omega)
      have hput := hown.put d (r := fq 2 (j + z)) (fq_lt (by omega))
      have HPUT := Lib.hid hput
      clear hput
      generalize hvz : fq 2 z = vz at *
      generalize hvj : fq 2 j = vj at *
      generalize hvs : fq 2 (j + z) = vs at *
      have HVS := Lib.hid hvs
      have r3 := fres_some a2
      have r4 := fdr_some a2
      have hd0 : ∀ W : World, W.drewN 0 = W := fun _ => rfl
      have HG := Lib.hid hg
      clear a2 hvz hvj hvs hown hs2 hg go jl jh jb jm
      go_wp2
      go_region
      all_goals
        go_wp2
        go_roundw
        case rel =>
          refine ⟨d + 1, by go_num, by omega, ?_, grown_trans HG.out (grown_trans (grown_setCell _ _ _) (grown_drewN _ 1 _))⟩
          rw [HST.out, List.map_set, HVS.out]
          exact HPUT.out
        case measure => simp [intOf]; omega
    · have : d = n := by omega
      subst this
      have hfin : rawD one more own ks d = rawF one more own ks := by rw [← HN1.out]; exact rawD_all _ _ _ _
      rw [hfin] at hown
      have HO2 := Lib.hid hown
      have HG := Lib.hid hg
      clear hfin hown hg
      go_wp2
      go_ret
      have hl : (rawF one more own ks).length = d := by rw [rawF_length, HN1.out]
      refine ⟨g, c, ?_, ?_, ?_⟩
      · show Ending.returned (Value.slice _ d c) = _
        rw [hl]
      · rw [hl]; exact HO2.out
      · exact BW2.out.grown HG.out (by omega) (fun k hk => by injection hk with e; omega)

/-- What the costs of ways keep. -/
def RawOk (dx dy : Int) (wd hi dp : Nat) (x y : Int) (l : List Int) : Prop := l.length = dp ∧ ∀ d, d < dp → 0 ≤ l.getD d 0 ∧ l.getD d 0 ≤ 100 + 100 * stepsI dx dy wd hi x y
theorem stepsI_le {dx dy : Int} {wd hi : Nat} {x y : Int} (h : insI x y wd hi) : stepsI dx dy wd hi x y ≤ wd + hi := by
  obtain ⟨h1, h2, h3, h4⟩ := h
  unfold stepsI
  repeat' split
  all_goals omega
theorem RawOk.qb3 {dx dy : Int} {wd hi dp : Nat} {x y : Int} {l : List Int} (h : RawOk dx dy wd hi dp x y l) (hxy : insI x y wd hi) (hw : wd ≤ 24) (hh : hi ≤ 24) : qb3 l :=
  qb3_of h.1 fun d hd => by have := h.2 d hd; have := stepsI_le (dx := dx) (dy := dy) hxy; omega
def rawG (one more : Int) (_ _ : Int) (own b : List Int) : List Int := rawF one more own b
theorem raw1_gives (w0 : World) (wd hi dp pb k : Nat) (own : Int → Int → List Int) (one more : Int) (hk : k < 8) (hp : BoxN w0 pb #[.float .f32 (fq 2 one), .float .f32 (fq 2 more)] 30) (p1 : 0 ≤ one) (p2 : one ≤ more) (p4 : more ≤ 1000000)
    (hl : ∀ x y, insI x y wd hi → (own x y).length = dp) (hb : ∀ x y, insI x y wd hi → ∀ d, d < dp → 0 ≤ (own x y).getD d 0 ∧ (own x y).getD d 0 ≤ 100) (h1 : 1 ≤ dp) (h8 : dp ≤ 8) (hw : wd ≤ 24) (hh : hi ≤ 24) :
    GivesA w0 (.func (.func 93) #[] #[.pointer (some ⟨pb, 0, none⟩)]) wd hi dp own (RawOk (wayX k) (wayY k) wd hi dp) (wayX k) (wayY k) (rawG one more) := by
  refine ⟨93, _, rfl, Try.call93, fun x y W before b1 o1 b2 o2 hi1 hi2 hW s1 l1 s2 l2 hbl hok => ?_⟩
  have hst := steps_lt (way_dir k hk) hi1 hi2
  refine ⟨⟨by unfold rawG; rw [rawF_length]; exact hl x y hi1, fun d hd => ?_⟩, by unfold rawG; rw [rawF_length]; exact hl x y hi1, ?_⟩
  · unfold rawG
    rw [rawF_get _ _ _ _ _ (by rw [hl x y hi1]; exact hd)]
    have a := hb x y hi1 d hd
    have b := jumpAt_ge (b := before) (d := d) p1 (show (0 : Int) ≤ more by omega) (by rw [hbl]; exact hd)
    have c := jumpAt_le_own before one more d
    have e := hok.2 d hd
    have f : 0 ≤ minL before := by
      obtain ⟨i, hi_, hz⟩ := List.getElem_of_mem (minL_mem (l := before) (List.ne_nil_of_length_pos (by rw [hbl]; omega)))
      have := (hok.2 i (by rw [← hbl]; exact hi_)).1
      rw [List.getD_eq_getElem?_getD, List.getElem?_eq_getElem hi_] at this
      rw [← hz]; exact this
    omega
  · exact raw1_any W b1 o1 dp b2 o2 dp dp pb (own x y) before one more x y _ _ s1 l1 (hl x y hi1) (qb2_ofB (hl x y hi1) (hb x y hi1)) s2 l2 hbl (hok.qb3 hi2 hw hh) (hp.below hW) p1 p2 p4 h1 h8

set_option maxHeartbeats 1000000 in
theorem raw_any (w : World) (wd hi dp b off c k : Nat) (bs : List Nat) (own : Int → Int → List Int) (one more : Int)
    (h : VolOk w wd hi dp b off c bs) (hblt : b < w.heap.size) (hq : QV bs wd hi dp own) (hk : k < 8) (hqb : ∀ x y, insI x y wd hi → ∀ d, d < dp → 0 ≤ (own x y).getD d 0 ∧ (own x y).getD d 0 ≤ 100) (p1 : 0 ≤ one) (p2 : one ≤ more) (p4 : more ≤ 1000000) :
    Calls Try.prog 54 #[.agg #[.int .i64 wd, .int .i64 hi, .int .i64 dp, .slice (some ⟨b, off, none⟩) bs.length c], .agg #[.float .f32 (fq 2 one), .float .f32 (fq 2 more)], .int .i64 k] w (MakesAl w wd hi dp (wayX k) (wayY k) (rawG one more) own (RawOk (wayX k) (wayY k) wd hi dp)) := by
  obtain ⟨d1, d2, d3, d4, d5, d6, d7, d8⟩ := h.dims
  have hl : ∀ x y, insI x y wd hi → (own x y).length = dp := by
    rintro x y ⟨x0, x1, y0, y1⟩
    obtain ⟨x, rfl⟩ := Int.eq_ofNat_of_zero_le x0
    obtain ⟨y, rfl⟩ := Int.eq_ofNat_of_zero_le y0
    exact (hq.2 x y (by omega) (by omega)).1
  have hb0 := (below_two w (.cells #[.int .i64 wd, .int .i64 hi, .int .i64 dp, .slice (some ⟨b, off, none⟩) bs.length c] 26) (.cells #[.float .f32 (fq 2 one), .float .f32 (fq 2 more)] 30)).alloc (by simp; omega) (.cells #[.int .i64 0, .int .i64 0, .int .i64 0, .slice none 0 0] 26)
  have BP := (BoxN.second w #[.float .f32 (fq 2 one), .float .f32 (fq 2 more)] 30 (.cells #[.int .i64 wd, .int .i64 hi, .int .i64 dp, .slice (some ⟨b, off, none⟩) bs.length c] 26)).below (alb1_ _ (.cells #[.int .i64 0, .int .i64 0, .int .i64 0, .slice none 0 0] 26))
  have KA := Lib.hid (along_any _ wd hi dp b off c k bs own _ _ _ (h.below hb0) (by simp; omega) hq hk (fun x y hxy => qb2_ofB (hl x y hxy) (hqb x y hxy)) (fun x y hxy => ⟨hl x y hxy, fun d hd => by have := hqb x y hxy d hd; omega⟩) (fun x y l hxy hok => hok.qb3 hxy (by omega) (by omega)) (raw1_gives _ wd hi dp _ k own one more hk BP p1 p2 p4 hl hqb d5 d6 (by omega) (by omega)))
  have HB := Lib.hid hb0
  generalize hvo : fq 2 one = vo at *
  generalize hvm : fq 2 more = vm at *
  clear hvo hvm h hb0 BP
  go_enter Try.func54, Try.ntmps54
  go_wp2_with fail
  refine KA.out.mono ?_
  rintro e w2 ⟨q, cc, bs', P, rfl, hown, hqv, hal, hok, hb2⟩
  have hbb := HB.out.trans (hb2.mono HB.out.size)
  obtain ⟨hc2, hf2⟩ := bcellV hb2
  have hz2 : w.heap.size + 2 < w2.heap.size := by have := hb2.size; simp at this; omega
  have HQ := Lib.hid hqv
  have HA := Lib.hid hal
  have HO := Lib.hid hok
  clear hqv hal hok
  go_wp2
  refine bodyPost_ret (v := .agg #[.int .i64 wd, .int .i64 hi, .int .i64 dp, .slice (some ⟨q, 0, none⟩) bs'.length cc]) (by simp [results, Try.results54, go_sem, hc2, hz2]) rfl ?_
  exact ⟨q, cc, bs', P, rfl, ((((hown.set (by first | omega | (simp; done) | (simp; omega)) _).set (by first | omega | (simp; done) | (simp; omega)) _).set (by first | omega | (simp; done) | (simp; omega)) _).set (by first | omega | (simp; done) | (simp; omega)) _).mono (by first | omega | (simp; done) | (simp; omega)), HQ.out, HA.out, HO.out, (((hbb.setCell (by first | omega | (simp; done) | (simp; omega)) _).setCell (by first | omega | (simp; done) | (simp; omega)) _).setCell (by first | omega | (simp; done) | (simp; omega)) _).setCell (by first | omega | (simp; done) | (simp; omega)) _⟩

theorem rawPath_ok (w : World) (wd hi dp b off c k : Nat) (bs : List Nat) (own : Int → Int → List Int) (one more : Int)
    (h : VolOk w wd hi dp b off c bs) (hblt : b < w.heap.size) (hq : QV bs wd hi dp own) (hk : k < 8) (hqb : ∀ x y, insI x y wd hi → ∀ d, d < dp → 0 ≤ (own x y).getD d 0 ∧ (own x y).getD d 0 ≤ 100) (h1 : 0 ≤ one) (h2 : one ≤ more) (h3 : more ≤ 1000000) :
    Calls Try.prog 19 #[.agg #[.int .i64 wd, .int .i64 hi, .int .i64 dp, .slice (some ⟨b, off, none⟩) bs.length c], .agg #[.float .f32 (fq 2 one), .float .f32 (fq 2 more)], .int .i64 k] w (MakesAlOk w wd hi dp (wayX k) (wayY k) (rawG one more) own (RawOk (wayX k) (wayY k) wd hi dp)) := by
  obtain ⟨d1, d2, d3, d4, d5, d6, d7, d8⟩ := h.dims
  have K := Lib.hid (fun W => pathOk_yes W wd hi dp k (some ⟨b, off, none⟩) bs.length c one more h.vl hk h1 h2 h3)
  have hb0 := (below_two w (.cells #[.int .i64 wd, .int .i64 hi, .int .i64 dp, .slice (some ⟨b, off, none⟩) bs.length c] 26) (.cells #[.float .f32 (fq 2 one), .float .f32 (fq 2 more)] 30)).alloc (by simp; omega) (.cells #[.int .i64 0, .int .i64 0, .int .i64 0, .slice none 0 0] 26)
  have KR := Lib.hid (fun W (hW : Below w.heap.size w W) => raw_any W wd hi dp b off c k bs own one more (h.below hW) (Nat.lt_of_lt_of_le hblt hW.size) hq hk hqb h1 h2 h3)
  generalize hVO : fq 2 one = vo at *
  generalize hVM : fq 2 more = vm at *
  clear hVO hVM h
  go_enter Try.func19, Try.ntmps19
  go_wp2_with fail
  refine (K.out _).mono ?_
  rintro e w1 ⟨rfl, hb1⟩
  obtain ⟨hc1, hf1⟩ := bcellV hb1
  have hbb := hb0.trans (hb1.mono hb0.size)
  have hz1 : w.heap.size + 2 < w1.heap.size := by have := hb1.size; simp at this; omega
  have HBB := Lib.hid hbb
  clear hb1 hb0
  go_wp2_with fail
  refine (KR.out w1 HBB.out).mono ?_
  rintro e w2 ⟨q, cc, bs', P, rfl, hown, hqv, hal, hok, hb2⟩
  have hbc := hbb.trans (hb2.mono hbb.size)
  obtain ⟨hc2, hf2⟩ := bcellV hb2
  have hz2 : w.heap.size + 2 < w2.heap.size := by have := hb2.size; omega
  have HQ := Lib.hid hqv
  have HA := Lib.hid hal
  have HO := Lib.hid hok
  clear hqv hal hok
  go_wp2
  refine bodyPost_ret (v := .tuple #[.agg #[.int .i64 wd, .int .i64 hi, .int .i64 dp, .slice (some ⟨q, 0, none⟩) bs'.length cc], .bool true]) (by simp [results, Try.results19, go_sem, hc2, hz2, hc1, hz1]) rfl ?_
  exact ⟨q, cc, bs', P, rfl, ((((hown.set (by first | omega | (simp; done) | (simp; omega)) _).set (by first | omega | (simp; done) | (simp; omega)) _).set (by first | omega | (simp; done) | (simp; omega)) _).set (by first | omega | (simp; done) | (simp; omega)) _).mono (by first | omega | (simp; done) | (simp; omega)), HQ.out, HA.out, HO.out, (((hbc.setCell (by first | omega | (simp; done) | (simp; omega)) _).setCell (by first | omega | (simp; done) | (simp; omega)) _).setCell (by first | omega | (simp; done) | (simp; omega)) _).setCell (by first | omega | (simp; done) | (simp; omega)) _⟩

end Go.Proofs.Ytfhlpabbacopjaa
