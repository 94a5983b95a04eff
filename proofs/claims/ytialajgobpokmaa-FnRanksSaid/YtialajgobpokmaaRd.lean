/- Ranks of all cells. -/
import Derived.Test.YtialajgobpokmaaRc
import Derived.Test.YtialajgobpokmaaOi
namespace Go.Proofs.Ytialajgobpokmaa
open Go.RowKit
set_option maxRecDepth 100000
set_option linter.unusedVariables false
set_option linter.unusedSimpArgs false

theorem rankAt_q (w : World) (wd hi N q c x y r : Nat) (ks : List Int) (hv : vPic wd hi N = true) (h : PW w q c N (ks.map (fq 2))) (hk : ∀ k ∈ ks, 0 ≤ k ∧ k ≤ 1000) (k1 : x < wd) (k2 : y < hi) (hr1 : 1 ≤ r) (hr2 : r ≤ 2) :
    Calls Try.prog 20 #[.agg #[.int .i64 wd, .int .i64 hi, .slice (some ⟨q, 0, none⟩) N c], .int .i64 x, .int .i64 y, .int .i64 r] w fun e w' => e = .returned (.tuple #[.int .i64 (rankF ks wd hi r x y), .bool true]) ∧ Below w.heap.size w w' := by
  obtain ⟨e1, e2, d1, d2, d3, d4, e7⟩ := vN hv
  have hin : (decide ((1 : Int) ≤ r) && decide ((r : Int) ≤ 2)) = true := by simp; omega
  have hI1 : inB x y wd hi = true := inB_iff.2 (by omega)
  have hb0 := alb1 w (.cells #[.int .i64 wd, .int .i64 hi, .slice (some ⟨q, 0, none⟩) N c] 26)
  have B := box_last w (.int .i64 wd) (.int .i64 hi) (.slice (some ⟨q, 0, none⟩) N c) 26
  have HE1 := Lib.hid e1
  have p1 := h.below hb0
  have HK := Lib.hid hk
  clear e1 h hk
  go_enter Try.func20, Try.ntmps20
  go_wp2_with fail
  refine (validPicture_any _ _ _ _ _ (by omega) _).mono ?_
  rw [hv]
  rintro e w1 ⟨rfl, hb1⟩
  have q1 := p1.below hb1
  have P : PicAt w1 w.heap.size wd hi (.slice (some ⟨q, 0, none⟩) N c) (ks.map (fq 2)) 26 := ⟨B.below hb1, q1.sl, by rw [q1.len]; exact HE1.out⟩
  have HBB := Lib.hid (hb0.trans (hb1.mono hb0.size))
  clear hb0 hb1 p1 q1 B hv
  go_wp2_with fail
  refine (picHas_any _ _ _ _ _ _ _ (by omega) (by omega) P.box).mono ?_
  rw [hI1]
  rintro e w2 ⟨rfl, rfl⟩
  go_wp2_with fail
  refine (in_any _ _ _ _).mono ?_
  rw [hin]
  rintro e w' ⟨rfl, rfl⟩
  clear hin hI1
  go_wp2_with fail
  refine (rank_q _ _ wd hi _ ks x y r d1 d2 (by omega) (by omega) (by omega) (by omega) hr1 hr2 HK.out P).mono ?_
  rintro e w' ⟨rfl, n, rfl⟩
  go_wp2
  go_ret2
  exact ⟨rfl, below_drewN HBB.out n⟩

def rkL (ks : List Int) (wd hi r m : Nat) : List Int := tabI m fun i => (rankF ks wd hi r (i % wd : Nat) (i / wd : Nat) : Nat)
theorem tabI_succ (m : Nat) (F : Nat → Int) : tabI (m + 1) F = tabI m F ++ [F m] := by unfold tabI; rw [List.range_succ, List.map_append]; rfl
theorem rkL_succ {ks : List Int} {wd hi r m x y : Nat} (hm : m = y * wd + x) (hx : x < wd) : rkL ks wd hi r (m + 1) = rkL ks wd hi r m ++ [((rankF ks wd hi r x y : Nat) : Int)] := by
  subst hm
  unfold rkL
  rw [tabI_succ]
  have e1 : (y * wd + x) % wd = x := by rw [Nat.mul_comm, Nat.mul_add_mod, Nat.mod_eq_of_lt hx]
  have e2 : (y * wd + x) / wd = y := by rw [Nat.mul_comm, Nat.mul_add_div (by omega), Nat.div_eq_of_lt hx, Nat.add_zero]
  rw [e1, e2]
theorem rkL_len (ks : List Int) (wd hi r m : Nat) : (rkL ks wd hi r m).length = m := tabI_length _ _
def MakesLI (w : World) (N : Nat) (L : List Int) (e : Ending) (w' : World) : Prop :=
  ∃ g c, e = .returned (.tuple #[.slice (some ⟨g, 0, none⟩) N c, .bool true]) ∧ OwnI w' w.heap.size (.slice (some ⟨g, 0, none⟩) N c) L ∧ Below w.heap.size w w'
theorem OwnI.mono {w : World} {B B' : Nat} {g n cap : Nat} {ks : List Int} (h : OwnI w B (.slice (some ⟨g, 0, none⟩) n cap) ks) (hB : B' ≤ B) : OwnI w B' (.slice (some ⟨g, 0, none⟩) n cap) ks := by
  rcases h with ⟨h1, h2 | ⟨g', cap', cur, e1, e2, e3⟩⟩
  · cases h2.1
  · exact ⟨h1, .inr ⟨g', cap', cur, e1, Nat.le_trans hB e2, e3⟩⟩

set_option maxHeartbeats 4000000 in
theorem ranksOf_q (w : World) (wd hi N q c r : Nat) (ks : List Int) (hv : vPic wd hi N = true) (h : PW w q c N (ks.map (fq 2))) (hk : ∀ k ∈ ks, 0 ≤ k ∧ k ≤ 1000) (hr1 : 1 ≤ r) (hr2 : r ≤ 2) :
    Calls Try.prog 18 #[.agg #[.int .i64 wd, .int .i64 hi, .slice (some ⟨q, 0, none⟩) N c], .int .i64 r] w (MakesLI w N (rkL ks wd hi r N)) := by
  obtain ⟨e1, e2, d1, d2, d3, d4, e7⟩ := vN hv
  have hin : (decide ((1 : Int) ≤ r) && decide ((r : Int) ≤ 2)) = true := by simp; omega
  have hb0 := alb1 w (.cells #[.int .i64 wd, .int .i64 hi, .slice (some ⟨q, 0, none⟩) N c] 26)
  have B := box_last w (.int .i64 wd) (.int .i64 hi) (.slice (some ⟨q, 0, none⟩) N c) 26
  obtain ⟨i0, hi0, hz0, hz1, hz2⟩ := info_parts info_i64
  have HE1 := Lib.hid e1
  have p1 := h.below hb0
  have HK := Lib.hid hk
  clear e1 h hk
  go_enter Try.func18, Try.ntmps18
  go_wp2_with fail
  refine (validPicture_any _ _ _ _ _ (by omega) _).mono ?_
  rw [hv]
  rintro e w1 ⟨rfl, hb1⟩
  have q1 := p1.below hb1
  have P : PicAt w1 w.heap.size wd hi (.slice (some ⟨q, 0, none⟩) N c) (ks.map (fq 2)) 26 := ⟨B.below hb1, q1.sl, by rw [q1.len]; exact HE1.out⟩
  have HBB := Lib.hid (hb0.trans (hb1.mono hb0.size))
  clear hb0 hb1 p1 q1 B hv
  go_wp2_with fail
  refine (in_any _ _ _ _).mono ?_
  rw [hin]
  rintro e w' ⟨rfl, rfl⟩
  clear hin
  have start : OwnI (w1.alloc (.cells #[] 2)) w1.heap.size (.slice (some ⟨w1.heap.size, 0, none⟩) 0 0) (rkL ks wd hi r 0) :=
    ⟨rfl, .inr ⟨w1.heap.size, 0, #[], rfl, Nat.le_refl _, heap_alloc_new w1 _, Nat.le_refl _, by unfold maxLen; omega, rfl, rfl⟩⟩
  have ha0 := alb1 w1 (.cells #[] 2)
  have pbl : w.heap.size < w1.heap.size := P.box.lt
  obtain ⟨z0, z1, z2, -, -, -⟩ := (P.box.below ha0).cells
  have HP := Lib.hid P
  clear P
  go_wp2_with fail
  clear z0 z1 z2
  go_loopw [6, 20] (fun v6 v20 wr => ∃ y m g c : Nat, v20 = .int .i64 y ∧ y ≤ hi ∧ m = y * wd ∧ v6 = .slice (some ⟨g, 0, none⟩) m c ∧ OwnI wr w1.heap.size (.slice (some ⟨g, 0, none⟩) m c) (rkL ks wd hi r m) ∧ Below w1.heap.size w1 wr) (fun _ v20 _ => hi - (intOf v20).toNat)
  case atStart => exact ⟨0, 0, _, _, rfl, Nat.zero_le _, by simp, rfl, start, ha0⟩
  case round =>
    clear start ha0
    obtain ⟨y, m, g, c, rfl, hy, hm, rfl, hown, hbl⟩ := hrel
    have HM := Lib.hid hm
    clear hm
    by_cases hlt : y < hi
    · obtain ⟨z0, z1, z2, -, -, -⟩ := (HP.out.box.below hbl).cells
      have HO := Lib.hid hown
      have HB := Lib.hid hbl
      clear hown hbl
      go_wp2_with fail
      clear z0 z1 z2
      go_loopw [6, 25] (fun v6 v25 wr => ∃ x m g c : Nat, v25 = .int .i64 x ∧ x ≤ wd ∧ m = y * wd + x ∧ v6 = .slice (some ⟨g, 0, none⟩) m c ∧ OwnI wr w1.heap.size (.slice (some ⟨g, 0, none⟩) m c) (rkL ks wd hi r m) ∧ Below w1.heap.size w1 wr) (fun _ v25 _ => wd - (intOf v25).toNat)
      case atStart => exact ⟨0, m, g, c, rfl, Nat.zero_le _, HM.out, rfl, HO.out, HB.out⟩
      case round =>
        clear HO HB HM
        obtain ⟨x, m, g, c, rfl, hx, hm, rfl, hown, hbl⟩ := hrel
        have HM := Lib.hid hm
        by_cases hltx : x < wd
        · have hm2 : m < 600 := by
            have h1 : y * wd ≤ 23 * 24 := Nat.mul_le_mul (by omega) d3
            omega
          have HSUC := Lib.hid (rkL_succ (ks := ks) (hi := hi) (r := r) hm hltx)
          have hsz := hbl.size
          have P := HP.out.below hbl
          have KR := Lib.hid (rank_q _ _ wd hi _ ks x y r d1 d2 d3 d4 (by omega) (by omega) hr1 hr2 HK.out P)
          have HO := Lib.hid hown
          have HB := Lib.hid hbl
          clear hm hown hbl P
          go_wp2_with fail
          refine KR.out.mono ?_
          rintro e w2 ⟨rfl, n, hw2⟩
          obtain ⟨R, hR⟩ : ∃ R : Int, R = (rankF ks wd hi r x y : Nat) := ⟨_, rfl⟩
          rw [← hR]
          have HR := Lib.hid hR
          have hbw : Below wr.heap.size wr w2 := by rw [hw2]; exact below_drewN (Below.refl _ _) n
          have how := HO.out.below hbw
          have HO2 := Lib.hid how
          have hB2 := Lib.hid (HB.out.trans (hbw.mono HB.out.size))
          have hsz2 : w1.heap.size ≤ w2.heap.size := hB2.out.size
          unfold OwnI at how
          rw [rkL_len] at how
          clear hw2 hR hbw
          go_wp2_with (at_builtin; refine wpList_append_lies _ (by rfl) _ _ _ (by rfl) w1.heap.size 2 i0 _ 1 8 Try.underlying43 hi0 hz0 hz1 hz2 rfl (by omega) (.slice (some ⟨g, 0, none⟩) m c) m _ (by rfl) (World.ownsRow.alloc how _) ⟨w2.heap.size, 0, none⟩ 1 1 [.int .i64 R] (by rfl) (by rfl) (cell_one_new _ _ _) (by simp [Value.oneCell']) (by omega) (by unfold maxLen; omega) (by omega) (by simp; omega) (w2.heap.size + 1) (by simp) ?_; intro gg cap wz hown2 hgrow hat hlt2)
          go_roundw
          case rel =>
            refine ⟨x + 1, m + 1, gg, cap, by go_num, by omega, by rw [HM.out]; omega, rfl, ?_, (hB2.out.alloc hsz2 (.cells #[.int .i64 R] 2)).grown hgrow (by simp; omega) (fun k hk => (HO2.out.lt hk).1)⟩
            unfold OwnI
            rw [HSUC.out, List.map_append, List.length_append, rkL_len, List.map_cons, List.map_nil, ← HR.out]
            exact hown2
          case measure => simp [intOf]; omega
        · obtain rfl : x = wd := by omega
          have HO := Lib.hid hown
          have HB := Lib.hid hbl
          clear hm hown hbl
          go_wp2
          go_roundw
          case rel => exact ⟨y + 1, m, g, c, by go_num, by omega, by rw [HM.out, Nat.add_mul, Nat.one_mul], rfl, HO.out, HB.out⟩
          case measure => simp [intOf]; omega
    · obtain rfl : y = hi := by omega
      obtain rfl : m = N := by rw [HM.out, HE1.out, Nat.mul_comm]
      have HO := Lib.hid hown
      have HB := Lib.hid hbl
      clear hown hbl
      go_wp2
      go_ret2
      exact ⟨g, c, rfl, HO.out.mono HBB.out.size, HBB.out.trans (HB.out.mono HBB.out.size)⟩

end Go.Proofs.Ytialajgobpokmaa
