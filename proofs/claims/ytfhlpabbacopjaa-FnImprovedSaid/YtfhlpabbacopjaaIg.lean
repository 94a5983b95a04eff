/- Jumps of a map are counted. -/
import Derived.Test.YtfhlpabbacopjaaIf
namespace Go.Proofs.Ytfhlpabbacopjaa
open Go.RowKit
set_option maxRecDepth 100000
set_option linter.unusedVariables false
set_option linter.unusedSimpArgs false

theorem below_of_grown2 {w wr : World} (h : w.grownBy wr none) : Below w.heap.size w wr := ⟨h.os, h.tape, h.output, h.size, fun k hk => h.block k hk (by simp)⟩
theorem makeJ (w : World) (n B : Nat) (hB : B ≤ w.heap.size) (hn : n ≤ 1000) :
    ∃ w', (Instr.makeSlice 42 (.int .i64 (n : Int)) (.int .i64 (n : Int))).run Try.prog w = .ok (.slice (some ⟨w.heap.size, 0, none⟩) n n) w' ∧ OwnI w' B (.slice (some ⟨w.heap.size, 0, none⟩) n n) (List.replicate n 0) ∧ Below w.heap.size w w' ∧ w.heap.size < w'.heap.size := by
  obtain ⟨i0, hi0, hz0, hz1, hz2⟩ := info_parts info_i64
  obtain ⟨w', h1, h2, h3⟩ := run_makeSlice_full (P := Try.prog) (w := w) B 42 2 i0 (.int .i64 0) 1 (by rfl) hi0 hz0 hz1 .i64 .i64 n (by omega) (by rw [hz2]; omega) (by unfold maxLen; omega) hB
  have h4 : (madeCells (Value.cells (.int .i64 0)) (n * 1)).toList = (List.replicate n (0 : Int)).map (Value.int .i64) := by
    rw [Nat.mul_one, List.map_replicate]; exact toList_madeCells_one _ _
  refine ⟨w', h1, ?_, below_of_grown2 h3, ?_⟩
  · unfold OwnI; rw [List.length_replicate, ← h4]; exact h2
  · exact (World.ownsRow.lt h2 w.heap.size rfl).2

def cR (wd x : Nat) : Int := if x + 1 < wd then 1 else 0
theorem sN_const (n : Nat) (c : Int) : sN n (fun _ => c) = c * n := by
  induction n with
  | zero => simp [sN]
  | succ n ih => show sN n (fun _ => c) + c = _; rw [ih, Int.natCast_add, Int.natCast_one, Int.mul_add, Int.mul_one]
theorem sN_cR (wd n : Nat) (h : n ≤ wd) : sN n (cR wd) = if n = wd ∧ 1 ≤ n then (n : Int) - 1 else n := by
  induction n with
  | zero => simp [sN]
  | succ n ih =>
    show sN n (cR wd) + cR wd n = _
    rw [ih (by omega), if_neg (by omega)]
    unfold cR
    by_cases g : n + 1 < wd
    · rw [if_pos g, if_neg (by omega)]; omega
    · rw [if_neg g, if_pos (by omega)]; omega
def cJ (wd hi : Nat) (y x : Nat) : Int := cR wd x + cR hi y
theorem cJ_all {wd hi : Nat} (hw : 1 ≤ wd) (hh : 1 ≤ hi) : sN hi (fun y => sN wd (cJ wd hi y)) = ((wd : Int) - 1) * hi + wd * ((hi : Int) - 1) := by
  have h1 : ∀ y, sN wd (cJ wd hi y) = ((wd : Int) - 1) + wd * cR hi y := by
    intro y
    show sN wd (fun x => cR wd x + cR hi y) = _
    rw [sN_add, sN_const, sN_cR wd wd (Nat.le_refl _), if_pos ⟨rfl, hw⟩, Int.mul_comm]
  have h2 : ∀ n, sN n (fun y => (wd : Int) * cR hi y) = wd * sN n (cR hi) := by
    intro n
    induction n with
    | zero => simp [sN]
    | succ n ih => show sN n (fun y => (wd : Int) * cR hi y) + (wd : Int) * cR hi n = (wd : Int) * (sN n (cR hi) + cR hi n); rw [ih, Int.mul_add]
  rw [sN_congr hi (fun y _ => h1 y), sN_add, sN_const, h2, sN_cR hi hi (Nat.le_refl _), if_pos ⟨rfl, hh⟩]
theorem cR_bd (wd x : Nat) : 0 ≤ cR wd x ∧ cR wd x ≤ 1 := by unfold cR; split <;> omega

/-- What counting keeps. -/
structure JW (wr : World) (B mb ob g wd hi q c N dp : Nat) (ms : List Nat) (ks : List Int) : Prop where
  map : MB wr mb wd hi q c N ms dp
  box : BoxN wr ob #[.slice (some ⟨g, 0, none⟩) 3 3] 42
  own : OwnI wr B (.slice (some ⟨g, 0, none⟩) 3 3) ks
  nn : ∀ i, 0 ≤ ks.getD i 0
  bg : B ≤ g
  n1 : mb ≠ g
  n2 : ob ≠ g
  n3 : q ≠ g
theorem JW.below {wr w' : World} {B mb ob g wd hi q c N dp : Nat} {ms : List Nat} {ks : List Int} (h : JW wr B mb ob g wd hi q c N dp ms ks) (hb : Below wr.heap.size wr w') : JW w' B mb ob g wd hi q c N dp ms ks :=
  ⟨h.map.below hb, h.box.below hb, h.own.below hb, h.nn, h.bg, h.n1, h.n2, h.n3⟩
theorem JW.next {wr w' : World} {B mb ob g wd hi q c N dp : Nat} {ms : List Nat} {ks ks2 : List Int} (h : JW wr B mb ob g wd hi q c N dp ms ks) (hg : wr.grownBy w' (some g)) (ho : OwnI w' B (.slice (some ⟨g, 0, none⟩) 3 3) ks2) (hn : ∀ i, 0 ≤ ks2.getD i 0) : JW w' B mb ob g wd hi q c N dp ms ks2 :=
  ⟨⟨Box3.grown h.map.box hg (by have := h.n1; simp; omega), ⟨⟨h.map.wm.sl.1.grown hg (.inr (by have := h.n3; simp [Value.ownBlock]; omega)), h.map.wm.sl.2⟩, Nat.lt_of_lt_of_le h.map.wm.lt hg.size, h.map.wm.len, h.map.wm.bd⟩⟩, h.box.grown hg (by have := h.n2; simp; omega), ho, hn, h.bg, h.n1, h.n2, h.n3⟩

set_option maxHeartbeats 8000000 in
theorem jumpsOf_ok (w : World) (wd hi dp N Nv qv cv q c : Nat) (ms : List Nat) (hv : vVol wd hi dp Nv = true) (hp : vPic wd hi N = true) (hNv : Nv ≤ 100000) (hN : N = wd * hi) (hw1 : 1 ≤ wd) (hw2 : wd ≤ 24) (hh1 : 1 ≤ hi) (hh2 : hi ≤ 24) (hd : dp ≤ 8) (hm : WM w q c N ms dp) :
    Calls Try.prog 26 #[.agg #[.int .i64 wd, .int .i64 hi, .int .i64 dp, .slice (some ⟨qv, 0, none⟩) Nv cv], .agg #[.int .i64 wd, .int .i64 hi, .slice (some ⟨q, 0, none⟩) N c]] w fun e w' => ∃ g ks, e = .returned (.tuple #[.slice (some ⟨g, 0, none⟩) 3 3, .bool true]) ∧ OwnI w' w.heap.size (.slice (some ⟨g, 0, none⟩) 3 3) ks ∧ (∀ i, 0 ≤ ks.getD i 0) ∧ sum3 ks = ((wd : Int) - 1) * hi + wd * ((hi : Int) - 1) ∧ Below w.heap.size w w' := by
  have hb0 := below_two w (.cells #[.int .i64 wd, .int .i64 hi, .int .i64 dp, .slice (some ⟨qv, 0, none⟩) Nv cv] 26) (.cells #[.int .i64 wd, .int .i64 hi, .slice (some ⟨q, 0, none⟩) N c] 48)
  have BM := BoxN.second w #[.int .i64 wd, .int .i64 hi, .slice (some ⟨q, 0, none⟩) N c] 48 (.cells #[.int .i64 wd, .int .i64 hi, .int .i64 dp, .slice (some ⟨qv, 0, none⟩) Nv cv] 26)
  have hm1 := hm.below hb0
  have HB0 := Lib.hid hb0
  have HQ1 := Lib.hid hN
  have hqlt := hm.lt
  clear hm hb0 hN
  go_enter Try.func26, Try.ntmps26
  go_wp2_with fail
  refine (isWhole_yes _ wd hi dp N q c Nv _ cv ms hv hp hm1 hNv).mono ?_
  rintro e w1 ⟨rfl, hb1⟩
  replace BM := BM.below hb1
  replace hm1 := hm1.below hb1
  have HB1 := Lib.hid (HB0.out.trans (hb1.mono HB0.out.size))
  have hs1 : w.heap.size + 2 ≤ w1.heap.size := by have := hb1.size; simp at this; omega
  clear hb1 HB0
  obtain ⟨w5, hr5, ho5, hb5, hs5⟩ := makeJ w1 3 w.heap.size (by omega) (by decide)
  have hr5 : (Instr.makeSlice 42 (.int .i64 3) (.int .i64 3)).run Try.prog w1 = .ok (.slice (some ⟨w1.heap.size, 0, none⟩) 3 3) w5 := hr5
  have ho5 : OwnI w5 w.heap.size (.slice (some ⟨w1.heap.size, 0, none⟩) 3 3) [0, 0, 0] := ho5
  have ha := alb1_ w5 (.cells #[.slice (some ⟨w1.heap.size, 0, none⟩) 3 3] 42)
  have BO := BoxN.last w5 #[.slice (some ⟨w1.heap.size, 0, none⟩) 3 3] 42
  have J0 : JW (w5.alloc (.cells #[.slice (some ⟨w1.heap.size, 0, none⟩) 3 3] 42)) w.heap.size (w.heap.size + 1) w5.heap.size w1.heap.size wd hi q c N dp ms [0, 0, 0] :=
    ⟨⟨((BM.below hb5).below ha).three, (hm1.below hb5).below ha⟩, BO, ho5.below ha, by intro i; match i with | 0 => decide | 1 => decide | 2 => decide | (n + 3) => exact Int.le_refl _, by omega, by omega, by omega, by omega⟩
  have HBW := Lib.hid (HB1.out.trans ((hb5.trans (ha.mono hb5.size)).mono HB1.out.size))
  have HJ0 := Lib.hid J0
  obtain ⟨z0, z1, z2, -, -, -⟩ := J0.map.box.cells
  clear J0 BO ha hb5 ho5 BM hm1 HB1 hv hp
  go_wp2_with fail
  clear z0 z1 z2 hr5
  generalize w5.alloc (.cells #[.slice (some ⟨w1.heap.size, 0, none⟩) 3 3] 42) = W5 at *
  generalize w5.heap.size = ob at *
  generalize w1.heap.size = g at *
  generalize hmb : w.heap.size + 1 = mb at *
  have wd24 : (wd : Int) ≤ 24 := by omega
  have hi24 : (hi : Int) ≤ 24 := by omega
  have HRB := Lib.hid (fun y n => sN_bd (F := cJ wd hi y) (B := 2) n (fun x _ => by have := cR_bd wd x; have := cR_bd hi y; unfold cJ; omega))
  have HAB := Lib.hid (fun n => sN_bd (F := fun y => sN wd (cJ wd hi y)) (B := 48) n (fun y _ => by have := HRB.out y wd; omega))
  have HFIN := Lib.hid (cJ_all hw1 hh1)
  go_loopw [18] (fun v18 wr => ∃ (y : Nat) (ks : List Int), v18 = .int .i64 y ∧ y ≤ hi ∧ W5.grownBy wr (some g) ∧ JW wr w.heap.size mb ob g wd hi q c N dp ms ks ∧ sum3 ks = sN y (fun y => sN wd (cJ wd hi y))) (fun v18 _ => hi - (intOf v18).toNat)
  case atStart => exact ⟨0, [0, 0, 0], rfl, Nat.zero_le _, grown_below (Below.refl _ _) _, HJ0.out, rfl⟩
  case round =>
    clear HJ0
    obtain ⟨y, ks, rfl, hy, hgr, hJ, hsum⟩ := hrel
    have HGR := Lib.hid hgr
    have HJ := Lib.hid hJ
    have HSUM := Lib.hid hsum
    by_cases hlt : y < hi
    · obtain ⟨z0, z1, z2, -, -, -⟩ := hJ.map.box.cells
      clear hgr hJ hsum
      go_wp2_with fail
      clear z0 z1 z2
      go_loopw [23] (fun v23 wr => ∃ (x : Nat) (ks : List Int), v23 = .int .i64 x ∧ x ≤ wd ∧ W5.grownBy wr (some g) ∧ JW wr w.heap.size mb ob g wd hi q c N dp ms ks ∧ sum3 ks = sN y (fun y => sN wd (cJ wd hi y)) + sN x (cJ wd hi y)) (fun v23 _ => wd - (intOf v23).toNat)
      case atStart => exact ⟨0, ks, rfl, Nat.zero_le _, HGR.out, HJ.out, by rw [HSUM.out]; simp [sN]⟩
      case round =>
        clear HGR HJ HSUM
        obtain ⟨x, ks1, rfl, hx, hgr, hJ, hsum⟩ := hrel
        have HSUM := Lib.hid hsum
        by_cases hltx : x < wd
        · have hbnd : sum3 ks1 ≤ 5000 := by have h1 := HRB.out y x; have h2 := HAB.out y; omega
          have HNEXT := Lib.hid (show sN y (fun y => sN wd (cJ wd hi y)) + sN (x + 1) (cJ wd hi y) = sum3 ks1 + cR wd x + cR hi y by rw [HSUM.out]; show _ + (sN x _ + cJ wd hi y x) = _; unfold cJ; omega)
          have x24 : (x : Int) < 24 := by omega
          have y24 : (y : Int) < 24 := by omega
          clear hsum
          go_wp2_with fail
          refine (mapHas_any wr mb wd hi _ _ _ (by omega) (by omega) hJ.map.box).mono ?_
          by_cases ga : x + 1 < wd
          · have hin : inB ((x : Int) + 1) ((y : Int)) wd hi = true := inB_iff.2 (by omega)
            rw [hin]
            rintro e w' ⟨rfl, rfl⟩
            clear hin
            have hca : cR wd x = 1 := by unfold cR; rw [if_pos ga]
            have m1 := hJ.map.wm.mat HQ1.out hltx hlt
            have m2 := hJ.map.wm.mat HQ1.out (x := (x + 1)) (y := y) (by omega) (by omega)
            go_wp2_with fail
            refine (whole_any wr mb wd hi q c N dp ms x y x y rfl rfl hltx hlt hw2 hh2 HQ1.out hd hJ.map).mono ?_
            rintro e waa ⟨rfl, n1, hwa⟩
            have ba : Below wr.heap.size wr waa := by rw [hwa]; exact below_drewN (Below.refl _ _) _
            have Ja := hJ.below ba
            have Ga := grown_trans hgr (grown_below ba _)
            clear hwa ba
            go_wp2_with fail
            refine (whole_any waa mb wd hi q c N dp ms ((x : Int) + 1) ((y : Int)) (x + 1) y (by omega) (by omega) (by omega) (by omega) hw2 hh2 HQ1.out hd Ja.map).mono ?_
            rintro e wba ⟨rfl, n2, hwb⟩
            have bb : Below waa.heap.size waa wba := by rw [hwb]; exact below_drewN (Below.refl _ _) _
            have Jb := Ja.below bb
            have Gb := grown_trans Ga (grown_below bb _)
            clear hwb bb Ja Ga
            go_wp2_with fail
            refine (count_any wba w.heap.size ob g ks1 (mAt ms wd x y) (mAt ms wd (x + 1) y) (by omega) (by omega) Jb.box Jb.own Jb.nn (by omega) Jb.n2).mono ?_
            rintro e wca ⟨⟨v, rfl⟩, ksa, hsa, hn, ho, hg⟩
            have Jca := Jb.next hg ho hn
            have Gca := grown_trans Gb hg
            clear Jb Gb hg ho hn m1 m2
            go_wp2_with fail
            refine (mapHas_any wca mb wd hi _ _ _ (by omega) (by omega) Jca.map.box).mono ?_
            by_cases gb : y + 1 < hi
            · have hin : inB ((x : Int)) ((y : Int) + 1) wd hi = true := inB_iff.2 (by omega)
              rw [hin]
              rintro e w' ⟨rfl, rfl⟩
              clear hin
              have hcb : cR hi y = 1 := by unfold cR; rw [if_pos gb]
              have m1 := Jca.map.wm.mat HQ1.out hltx hlt
              have m2 := Jca.map.wm.mat HQ1.out (x := x) (y := (y + 1)) (by omega) (by omega)
              go_wp2_with fail
              refine (whole_any wca mb wd hi q c N dp ms x y x y rfl rfl hltx hlt hw2 hh2 HQ1.out hd Jca.map).mono ?_
              rintro e wab ⟨rfl, n1, hwa⟩
              have ba : Below wca.heap.size wca wab := by rw [hwa]; exact below_drewN (Below.refl _ _) _
              have Ja := Jca.below ba
              have Ga := grown_trans Gca (grown_below ba _)
              clear hwa ba
              go_wp2_with fail
              refine (whole_any wab mb wd hi q c N dp ms ((x : Int)) ((y : Int) + 1) x (y + 1) (by omega) (by omega) (by omega) (by omega) hw2 hh2 HQ1.out hd Ja.map).mono ?_
              rintro e wbb ⟨rfl, n2, hwb⟩
              have bb : Below wab.heap.size wab wbb := by rw [hwb]; exact below_drewN (Below.refl _ _) _
              have Jb := Ja.below bb
              have Gb := grown_trans Ga (grown_below bb _)
              clear hwb bb Ja Ga
              go_wp2_with fail
              refine (count_any wbb w.heap.size ob g ksa (mAt ms wd x y) (mAt ms wd x (y + 1)) (by omega) (by omega) Jb.box Jb.own Jb.nn (by omega) Jb.n2).mono ?_
              rintro e wcb ⟨⟨v, rfl⟩, ksb, hsb, hn, ho, hg⟩
              have Jcb := Jb.next hg ho hn
              have Gcb := grown_trans Gb hg
              clear Jb Gb hg ho hn m1 m2
              have HJ2 := Lib.hid Jcb
              have HG2 := Lib.hid Gcb
              have hfin : sum3 ksb = sum3 ks1 + cR wd x + cR hi y := by rw [hca, hcb]; omega
              have HF := Lib.hid hfin
              clear Jcb Gcb hfin
              go_wp2
              go_roundw
              case rel => exact ⟨x + 1, ksb, by go_num, by omega, HG2.out, HJ2.out, by rw [HNEXT.out]; exact HF.out⟩
              case measure => simp [intOf]; omega
            · have hin : inB ((x : Int)) ((y : Int) + 1) wd hi = false := by
                cases e : inB ((x : Int)) ((y : Int) + 1) wd hi
                · rfl
                · have := inB_iff.1 e; omega
              rw [hin]
              rintro e w' ⟨rfl, rfl⟩
              clear hin
              have hcb : cR hi y = 0 := by unfold cR; rw [if_neg gb]
              have HJ2 := Lib.hid Jca
              have HG2 := Lib.hid Gca
              have hfin : sum3 ksa = sum3 ks1 + cR wd x + cR hi y := by rw [hca, hcb]; omega
              have HF := Lib.hid hfin
              clear Jca Gca hfin
              go_wp2
              go_roundw
              case rel => exact ⟨x + 1, ksa, by go_num, by omega, HG2.out, HJ2.out, by rw [HNEXT.out]; exact HF.out⟩
              case measure => simp [intOf]; omega
          · have hin : inB ((x : Int) + 1) ((y : Int)) wd hi = false := by
              cases e : inB ((x : Int) + 1) ((y : Int)) wd hi
              · rfl
              · have := inB_iff.1 e; omega
            rw [hin]
            rintro e w' ⟨rfl, rfl⟩
            clear hin
            have hca : cR wd x = 0 := by unfold cR; rw [if_neg ga]
            go_wp2_with fail
            refine (mapHas_any wr mb wd hi _ _ _ (by omega) (by omega) hJ.map.box).mono ?_
            by_cases gb : y + 1 < hi
            · have hin : inB ((x : Int)) ((y : Int) + 1) wd hi = true := inB_iff.2 (by omega)
              rw [hin]
              rintro e w' ⟨rfl, rfl⟩
              clear hin
              have hcb : cR hi y = 1 := by unfold cR; rw [if_pos gb]
              have m1 := hJ.map.wm.mat HQ1.out hltx hlt
              have m2 := hJ.map.wm.mat HQ1.out (x := x) (y := (y + 1)) (by omega) (by omega)
              go_wp2_with fail
              refine (whole_any wr mb wd hi q c N dp ms x y x y rfl rfl hltx hlt hw2 hh2 HQ1.out hd hJ.map).mono ?_
              rintro e wab ⟨rfl, n1, hwa⟩
              have ba : Below wr.heap.size wr wab := by rw [hwa]; exact below_drewN (Below.refl _ _) _
              have Ja := hJ.below ba
              have Ga := grown_trans hgr (grown_below ba _)
              clear hwa ba
              go_wp2_with fail
              refine (whole_any wab mb wd hi q c N dp ms ((x : Int)) ((y : Int) + 1) x (y + 1) (by omega) (by omega) (by omega) (by omega) hw2 hh2 HQ1.out hd Ja.map).mono ?_
              rintro e wbb ⟨rfl, n2, hwb⟩
              have bb : Below wab.heap.size wab wbb := by rw [hwb]; exact below_drewN (Below.refl _ _) _
              have Jb := Ja.below bb
              have Gb := grown_trans Ga (grown_below bb _)
              clear hwb bb Ja Ga
              go_wp2_with fail
              refine (count_any wbb w.heap.size ob g ks1 (mAt ms wd x y) (mAt ms wd x (y + 1)) (by omega) (by omega) Jb.box Jb.own Jb.nn (by omega) Jb.n2).mono ?_
              rintro e wcb ⟨⟨v, rfl⟩, ksb, hsb, hn, ho, hg⟩
              have Jcb := Jb.next hg ho hn
              have Gcb := grown_trans Gb hg
              clear Jb Gb hg ho hn m1 m2
              have HJ2 := Lib.hid Jcb
              have HG2 := Lib.hid Gcb
              have hfin : sum3 ksb = sum3 ks1 + cR wd x + cR hi y := by rw [hca, hcb]; omega
              have HF := Lib.hid hfin
              clear Jcb Gcb hfin
              go_wp2
              go_roundw
              case rel => exact ⟨x + 1, ksb, by go_num, by omega, HG2.out, HJ2.out, by rw [HNEXT.out]; exact HF.out⟩
              case measure => simp [intOf]; omega
            · have hin : inB ((x : Int)) ((y : Int) + 1) wd hi = false := by
                cases e : inB ((x : Int)) ((y : Int) + 1) wd hi
                · rfl
                · have := inB_iff.1 e; omega
              rw [hin]
              rintro e w' ⟨rfl, rfl⟩
              clear hin
              have hcb : cR hi y = 0 := by unfold cR; rw [if_neg gb]
              have HJ2 := Lib.hid hJ
              have HG2 := Lib.hid hgr
              have hfin : sum3 ks1 = sum3 ks1 + cR wd x + cR hi y := by rw [hca, hcb]; omega
              have HF := Lib.hid hfin
              clear hJ hgr hfin
              go_wp2
              go_roundw
              case rel => exact ⟨x + 1, ks1, by go_num, by omega, HG2.out, HJ2.out, by rw [HNEXT.out]; exact HF.out⟩
              case measure => simp [intOf]; omega
        · obtain rfl : x = wd := by omega
          have HGR := Lib.hid hgr
          have HJ := Lib.hid hJ
          clear hgr hJ hsum
          go_wp2
          go_roundw
          case rel => exact ⟨y + 1, ks1, by go_num, by omega, HGR.out, HJ.out, by rw [HSUM.out]; rfl⟩
          case measure => simp [intOf]; omega
    · obtain rfl : y = hi := by omega
      have zo := hJ.box.cell 0
      simp only [List.size_toArray, List.length_cons, List.length_nil, List.getElem?_toArray, List.getElem?_cons_zero] at zo
      obtain ⟨z0, z1, z2, -, -, -⟩ := hJ.map.box.cells
      have hgB := hJ.bg
      clear hgr hJ hsum
      go_wp2
      go_ret2
      exact ⟨g, ks, rfl, HJ.out.own, HJ.out.nn, by rw [HSUM.out, HFIN.out], HBW.out.grown HGR.out HBW.out.size (fun k hk => by injection hk with e; omega)⟩

end Go.Proofs.Ytfhlpabbacopjaa
