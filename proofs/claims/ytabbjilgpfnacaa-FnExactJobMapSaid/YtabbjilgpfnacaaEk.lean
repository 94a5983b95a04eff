/- The reference's BoxVolume, by words. -/
import Derived.Test.YtabbjilgpfnacaaEj
namespace Go.Proofs.Ytabbjilgpfnacaa
open Go.RowKit Ieee
set_option maxRecDepth 100000
set_option linter.unusedVariables false
set_option linter.unusedSimpArgs false

set_option maxHeartbeats 4000000 in
theorem l03StackE (w : World) (g cap wd hi dp : Nat) (q c : Nat → Nat) (qs : Nat → List Nat) (h1 : 1 ≤ wd) (h2 : wd ≤ 24) (h3 : 1 ≤ hi) (h4 : hi ≤ 24) (d1 : 1 ≤ dp) (d2 : dp ≤ 8) (hN : wd * hi ≤ 256)
    (hp : ∀ d, d < dp → PicI w g (d * 3) wd hi (.slice (some ⟨q d, 0, none⟩) (wd * hi) (c d)) (qs d)) :
    Calls Try.prog 106 #[.slice (some ⟨g, 0, none⟩) dp cap] w (MakesVE w wd hi dp (tab (wd * hi * dp) fun k => fl ((qs (k % dp)).getD (k / dp) 0))) := by
  obtain ⟨i0, hi0, hz0, hz1, hz2⟩ := info_parts info_f32
  have hpl := (hp 0 (by omega)).lt
  obtain ⟨wA, hwA⟩ : ∃ wA, wA = w.alloc (.cells #[.int .i64 0, .int .i64 0, .int .i64 0, .slice none 0 0] 31) := ⟨_, rfl⟩
  have hbA : Below w.heap.size w wA := by rw [hwA]; exact (Below.refl _ _).alloc (Nat.le_refl _) _
  have BR : BoxN wA w.heap.size #[.int .i64 0, .int .i64 0, .int .i64 0, .slice none 0 0] 31 := by rw [hwA]; exact BoxN.last w _ _
  have hP := fun d hd => (hp d hd).below hbA
  obtain ⟨N, hNe⟩ : ∃ N, wd * hi = N := ⟨_, rfl⟩
  rw [hNe] at hP ⊢
  have Z := Lib.hid (fun W (hb : Below wA.heap.size wA W) d hd => (hP d hd).below hb)
  have HWA := Lib.hid hwA
  have HBA := Lib.hid hbA
  have HBR := Lib.hid BR
  have HNE := Lib.hid hNe
  have hrl : w.heap.size < wA.heap.size := BR.lt
  have hpA : g < wA.heap.size := (hP 0 (by omega)).lt
  have hN0 : 0 < N := by rw [← hNe]; exact Nat.mul_pos h1 h3
  have hNle : N ≤ 256 := by omega
  have HN0 := Lib.hid hN0
  have dpp : (0 : Int) < (dp : Int) := by omega
  clear hp hP hwA hbA BR hNe hN hN0
  go_enter Try.func106, Try.ntmps106
  go_upto_region 1 with fail
  rw [← HWA.out]
  go_cut [3] from 6 to 16 (fun v3 wx => ∃ ob : Nat, v3 = .pointer (some ⟨ob, 0, none⟩) ∧ AccE wA wx ob wd hi dp (.slice none 0 0) [] [])
  case first =>
    have hal : ∀ (W : World) (o : Obj), Below W.heap.size W (W.alloc o) := fun W o => (Below.refl _ _).alloc (Nat.le_refl _) _
    have hal0 := hal wA (.cells #[.int .i64 0, .int .i64 0, .int .i64 0, .slice none 0 0] 31)
    have zz := Z.out wA (Below.refl _ _) 0 (by omega)
    have yy := Z.out _ hal0 0 (by omega)
    obtain ⟨z0, z1⟩ : wA.cell? ⟨g, 0, none⟩ = some (.int .i64 wd) ∧ wA.cell? ⟨g, 1, none⟩ = some (.int .i64 hi) := ⟨by simpa using zz.c0, by simpa using zz.c1⟩
    obtain ⟨y0, y1⟩ : (wA.alloc (.cells #[.int .i64 0, .int .i64 0, .int .i64 0, .slice none 0 0] 31)).cell? ⟨g, 0, none⟩ = some (.int .i64 wd) ∧ (wA.alloc (.cells #[.int .i64 0, .int .i64 0, .int .i64 0, .slice none 0 0] 31)).cell? ⟨g, 1, none⟩ = some (.int .i64 hi) := ⟨by simpa using yy.c0, by simpa using yy.c1⟩
    clear zz yy
    go_region
    all_goals go_wp2_with fail
    all_goals go_meet
    exact ⟨wA.heap.size, rfl, below_drewN (hal _ _) 1, (BoxN.last wA _ _).drewN 1, OwnF.nil _ _, by simp [Value.ownBlock], Nat.le_refl _, rfl⟩
  case rest =>
    obtain ⟨ob, rfl, hacc⟩ := hcut
    have HACC := Lib.hid hacc
    have z2 := (Z.out _ hacc.bel 0 (by omega)).c2
    rw [Nat.zero_mul, Nat.zero_add] at z2
    clear hacc
    go_wp2_with fail
    clear z2
    go_loopw [22] (fun v22 wr => ∃ (i : Nat) (v : Value) (cs : List Nat), v22 = .int .i64 i ∧ i ≤ N ∧ AccE wA wr ob wd hi dp v cs (tab (i * dp) fun k => fl ((qs (k % dp)).getD (k / dp) 0))) (fun v22 _ => N - (intOf v22).toNat)
    case atStart => exact ⟨0, _, [], rfl, Nat.zero_le _, by rw [Nat.zero_mul]; exact HACC.out⟩
    case round =>
      clear HACC
      obtain ⟨i, v1, cs, rfl, hi_, hacc⟩ := hrel
      have HACC := Lib.hid hacc
      clear hacc
      by_cases hlt : i < N
      · go_wp2_with fail
        go_loopw [27] (fun v27 wr => ∃ (d : Nat) (v : Value) (cs : List Nat), v27 = .int .i64 d ∧ d ≤ dp ∧ AccE wA wr ob wd hi dp v cs (tab (i * dp + d) fun k => fl ((qs (k % dp)).getD (k / dp) 0))) (fun v27 _ => dp - (intOf v27).toNat)
        case atStart => exact ⟨0, v1, cs, rfl, Nat.zero_le _, HACC.out⟩
        case round =>
          clear HACC
          obtain ⟨d, v2, cs2, rfl, hd, hacc⟩ := hrel
          by_cases hld : d < dp
          · have P := Z.out _ hacc.bel d hld
            have hbel := hacc.bel
            have hown := hacc.own
            have hne := hacc.ne
            have hobf := hacc.obf
            have hbox := hacc.box
            have hL : cs2.length ≤ 5000 := by
              have h5 : i * dp ≤ 256 * 8 := Nat.mul_le_mul (by omega) d2
              have h6 : cs2.length = i * dp + d := by have := congrArg List.length hacc.con; rwa [List.length_map, tab_length] at this
              omega
            have hB := hacc.box.lt
            have hBs := hbel.size
            have p2 := P.c2
            have pg := P.sl.at i (by rw [P.len, HNE.out]; exact hlt)
            rw [Nat.zero_add] at pg
            have HCO := Lib.hid (show (fun k => fl ((qs (k % dp)).getD (k / dp) 0)) (i * dp + d) = fl ((qs d).getD i 0) by
              show fl ((qs ((i * dp + d) % dp)).getD ((i * dp + d) / dp) 0) = _
              rw [Nat.mul_comm i dp, Nat.mul_add_mod, Nat.mod_eq_of_lt hld, Nat.mul_add_div (by omega), Nat.div_eq_of_lt hld, Nat.add_zero])
            generalize (qs d).getD i 0 = zz at *
            obtain ⟨pg, pg2⟩ := pg
            have HPG := Lib.hid pg2
            have b1 : (d : Int) < (dp : Int) := by omega
            have b2 : (i : Int) < (N : Int) := by omega
            have HS := Lib.hid hacc
            clear hacc P pg2
            have o3 : wr.cell? ⟨ob, 3, none⟩ = some v2 := hbox.cell 3
            go_wp2_with fail
            have hD : Below wr.heap.size wr wr.drew := below_drewN (Below.refl _ _) 1
            have hownD := (hown.below hD).1
            have hboxD := hbox.below hD
            go_region_law (refine step_append_lies _ (by rfl) _ _ _ (by rfl) wA.heap.size 44 i0 _ 1 4 Try.underlying22 hi0 hz0 hz1 hz2 rfl (by omega) v2 cs2.length _ (by rfl) (World.ownsRow.alloc hownD _) ⟨wr.heap.size, 0, none⟩ 1 1 [.float .f32 zz] (by rfl) (by rfl) (cell_one_new _ _ _) (by simp [Value.oneCell']) (by omega) (by unfold maxLen; omega) (by omega) (by simp; omega) (wr.heap.size + 1) (by simp) ?_; intro gg cap2 w2 hown2 hgrow hat hlt2; have hq := ((hboxD.below (alE _ _)).grown hgrow hne); have q2 := hq.cell 3; have g2 := hq.free 3)
            all_goals
              go_wp2
              go_roundw
              case rel =>
                have hst := HS.out.step (z := fl zz) hD HPG.out rfl hown2 hgrow hat
                rw [← HCO.out, ← tab_succ] at hst
                exact ⟨d + 1, _, cs2 ++ [zz], by go_num, by omega, hst⟩
              case measure => simp [intOf]; omega
          · obtain rfl : dp = d := by omega
            have HS := Lib.hid hacc
            clear hacc
            go_wp2_with fail
            go_roundw
            case rel => exact ⟨i + 1, v2, cs2, by go_num, by omega, by rw [Nat.add_mul, Nat.one_mul]; exact HS.out⟩
            case measure => simp [intOf]; omega
      · obtain rfl : N = i := by omega
        have hob := HACC.out.own
        have hcon := HACC.out.con
        obtain ⟨va, vc, rfl⟩ := hob.sl.len
        obtain ⟨c0, c1, c2, c3, -, -, -, -⟩ := HACC.out.box.four
        have hbr := HBR.out.below HACC.out.bel
        obtain ⟨e0, e1, e2, e3, e4, e5, e6, e7⟩ := hbr.four
        have hlt2 := hbr.lt
        have HOB := Lib.hid (And.intro hob hcon)
        clear hob hcon hbr
        go_wp2_with fail
        refine bodyPost_ret (v := .agg #[.int .i64 wd, .int .i64 hi, .int .i64 dp, .slice va cs.length vc]) (by simp [results, Try.results106, go_sem, e0, e1, e2, e3, hlt2]) rfl ?_
        have hbb := HBA.out.trans (HACC.out.bel.mono HBA.out.size)
        exact ⟨_, vc, cs, rfl, (own_set4 HOB.out.1 hrl _ _ _ _).mono HBA.out.size, HOB.out.2, below_set4 hbb (Nat.le_refl _) _ _ _ _⟩

end Go.Proofs.Ytabbjilgpfnacaa
