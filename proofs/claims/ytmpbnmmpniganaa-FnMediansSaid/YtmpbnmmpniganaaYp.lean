/- The reference's flat picture of ones. -/
import Derived.Test.YtmpbnmmpniganaaKa
import Derived.Test.YtmpbnmmpniganaaQf
import Derived.Deep.AppendLies
namespace Go.Proofs.Ytmpbnmmpniganaa
open Go.RowKit
set_option maxRecDepth 100000
set_option linter.unusedVariables false
set_option linter.unusedSimpArgs false

theorem l00In_y (n lo hi : Int) (h1 : lo ≤ n) (h2 : n ≤ hi) (w : World) : Calls Try.prog 110 #[.int .i64 n, .int .i64 lo, .int .i64 hi] w fun e w' => e = .returned (.bool true) ∧ w = w' := by
  have e1 : decide (lo ≤ n) = true := decide_eq_true h1
  have e2 : decide (n ≤ hi) = true := decide_eq_true h2
  go_enter Try.func110, Try.ntmps110
  go_wp2
  go_ret
  exact ⟨by simp [h2], rfl⟩
theorem l02Size_y (wd hi : Nat) (h1 : 1 ≤ wd) (h2 : wd ≤ 24) (h3 : 1 ≤ hi) (h4 : hi ≤ 24) (h5 : wd * hi ≤ 256) (W : World) : Calls Try.prog 80 #[.int .i64 wd, .int .i64 hi] W fun e w' => e = .returned (.bool true) ∧ W = w' := by
  have KA := Lib.hid (fun w => l00In_y (wd : Int) 1 24 (by omega) (by omega) w)
  have KB := Lib.hid (fun w => l00In_y (hi : Int) 1 24 (by omega) (by omega) w)
  have hm : (wd : Int) * (hi : Int) ≤ 256 := by rw [← Int.natCast_mul]; omega
  have hm0 : (0 : Int) ≤ (wd : Int) * (hi : Int) := by rw [← Int.natCast_mul]; omega
  have hw : IntKind.i64.wrap ((wd : Int) * (hi : Int)) = (wd : Int) * (hi : Int) := IntWalk.i64_in _ (by omega)
  have hd : decide ((wd : Int) * (hi : Int) ≤ 256) = true := decide_eq_true hm
  go_enter Try.func80, Try.ntmps80
  go_wp2_with fail
  refine (KA.out _).mono ?_
  rintro e w' ⟨rfl, rfl⟩
  go_wp2_with fail
  refine (KB.out _).mono ?_
  rintro e w' ⟨rfl, rfl⟩
  go_wp2
  go_ret
  exact ⟨rfl, rfl⟩

/-- A picture of one grey. -/
def MakesFlat (w : World) (wd hi : Nat) (r : Nat) (e : Ending) (w' : World) : Prop :=
  ∃ q c, e = .returned (.tuple #[.agg #[.int .i64 wd, .int .i64 hi, .slice (some ⟨q, 0, none⟩) (wd * hi) c], .bool true]) ∧ SlF w' (.slice (some ⟨q, 0, none⟩) (wd * hi) c) (List.replicate (wd * hi) r) ∧ q < w'.heap.size ∧ w.heap.size ≤ q ∧ Below w.heap.size w w'

set_option maxHeartbeats 2000000 in
theorem sflat_any (w : World) (wd hi r : Nat) (hr : r < 4294967296) (h1 : 1 ≤ wd) (h2 : wd ≤ 24) (h3 : 1 ≤ hi) (h4 : hi ≤ 24) (h5 : wd * hi ≤ 256) :
    Calls Try.prog 30 #[.int .i64 wd, .int .i64 hi, .float .f32 r] w (MakesFlat w wd hi r) := by
  obtain ⟨i0, hi0, hz0, hz1, hz2⟩ := info_parts info_f32
  obtain ⟨wA, hwA⟩ : ∃ wA, wA = w.alloc (.cells #[.int .i64 0, .int .i64 0, .slice none 0 0] 37) := ⟨_, rfl⟩
  have hbA : Below w.heap.size w wA := by rw [hwA]; exact (Below.refl _ _).alloc (Nat.le_refl _) _
  have BR : Box3 wA w.heap.size (.int .i64 0) (.int .i64 0) (.slice none 0 0) 37 := by rw [hwA]; exact box_last w _ _ _ _
  have KS := Lib.hid (l02Size_y wd hi h1 h2 h3 h4 h5 wA)
  obtain ⟨N, hN⟩ : ∃ N, N = wd * hi := ⟨_, rfl⟩
  have hNI : (wd : Int) * (hi : Int) = (N : Int) := by rw [hN, Int.natCast_mul]
  have hN1 : 0 < N := by rw [hN]; exact Nat.mul_pos h1 h3
  rw [← hN] at h5
  unfold MakesFlat
  rw [← hN]
  have HWA := Lib.hid hwA
  have HBA := Lib.hid hbA
  have HBR := Lib.hid BR
  have HRL := Lib.hid hr
  have hrl : w.heap.size < wA.heap.size := BR.lt
  clear hwA hbA BR hN hr
  go_enter Try.func30, Try.ntmps30
  go_upto_region 1 with fail
  rw [← HWA.out]
  go_wp2_with fail
  refine KS.out.mono ?_
  rintro e w1 ⟨rfl, rfl⟩
  go_wp2_with fail
  refine (l02New_any _ _ _).mono ?_
  rintro e w3 ⟨rfl, hown, hb3, hlt3⟩
  obtain ⟨w4, hw4⟩ : ∃ w4, w4 = w3.alloc (.cells #[.int .i64 wd, .int .i64 hi, .slice (some ⟨wA.heap.size + 1, 0, none⟩) 0 0] 37) := ⟨_, rfl⟩
  have hacc : AccP wA w4 w3.heap.size wd hi (.slice (some ⟨wA.heap.size + 1, 0, none⟩) 0 0) [] := by
    rw [hw4]
    exact ⟨hb3.alloc hb3.size _, box_last w3 _ _ _ _, (hown.below (alb_k w3 _)).mono (Nat.le_succ _), by simp [Value.ownBlock]; omega, hb3.size⟩
  have HACC := Lib.hid hacc
  have HW4 := Lib.hid hw4
  have hob := hb3.size
  clear hown hb3 hlt3 hacc hw4
  go_upto_region 4 with fail
  rw [← HW4.out]
  generalize w3.heap.size = ob at *
  go_wp2_with fail
  go_loopw [9] (fun v9 wr => ∃ (i : Nat) (v : Value), v9 = .int .i64 i ∧ i ≤ N ∧ AccP wA wr ob wd hi v (List.replicate i r)) (fun v9 _ => N - (intOf v9).toNat)
  case atStart => exact ⟨0, _, rfl, Nat.zero_le _, HACC.out⟩
  case round =>
    clear HACC
    obtain ⟨i, v, rfl, hiN, hacc⟩ := hrel
    by_cases hlt : i < N
    · have hbel := hacc.bel
      have hown := hacc.own
      have hne := hacc.ne
      have hobf := hacc.obf
      have hbox := hacc.box
      have hB := hacc.box.lt
      have hBs := hbel.size
      obtain ⟨-, -, c2, -, -, -⟩ := hbox.cells
      have HS := Lib.hid hacc
      obtain ⟨cs, hcs⟩ : ∃ cs, cs = List.replicate i r := ⟨_, rfl⟩
      rw [← hcs] at hown
      have hll : cs.length = i := by rw [hcs]; exact List.length_replicate
      have HCS := Lib.hid hcs
      have HLL := Lib.hid hll
      have hlc : cs.length ≤ 600 := by omega
      rw [← hcs] at HS
      clear hacc hcs hll
      go_wp2_with (at_builtin; refine wpList_append_lies _ (by rfl) _ _ _ (by rfl) wA.heap.size 33 i0 _ 1 4 Try.underlying25 hi0 hz0 hz1 hz2 rfl (by omega) v cs.length _ (by rfl) (World.ownsRow.alloc hown.1 _) ⟨wr.heap.size, 0, none⟩ 1 1 [.float .f32 r] (by rfl) (by rfl) (cell_one_new _ _ _) (by simp [Value.oneCell']) (by omega) (by unfold maxLen; omega) (by omega) (by simp; omega) (wr.heap.size + 1) (by simp) ?_; intro gg cap w2 hown2 hgrow hat hlt2; obtain ⟨q0, q1, q2, g0, g1, g2⟩ := ((hbox.below ((Below.refl wr.heap.size wr).alloc (Nat.le_refl _) _)).grown hgrow hne).cells)
      go_wp2
      go_roundw
      case rel =>
        refine ⟨i + 1, .slice (some ⟨gg, 0, none⟩) (cs.length + 1) cap, by go_num, by omega, ?_⟩
        rw [List.replicate_succ', ← HCS.out]
        exact HS.out.step (Below.refl _ _) HRL.out hown2 hgrow hat
      case measure => simp [intOf]; omega
    · obtain rfl : N = i := by omega
      have hob2 := hacc.own
      obtain ⟨va, vc, rfl⟩ := hob2.sl.len
      obtain ⟨q, rfl⟩ := own_ptr_k hob2 (by rw [List.length_replicate]; exact hN1)
      obtain ⟨c0, c1, c2, -, -, -⟩ := hacc.box.cells
      rw [List.length_replicate] at c2 hob2
      obtain ⟨d0, d1, d2, d3, d4, d5⟩ := (HBR.out.below hacc.bel).cells
      have hq := hob2.lt (k := q) rfl
      have HO := Lib.hid (And.intro hob2 hacc.bel)
      clear hacc hob2
      go_wp2
      refine bodyPost_ret (v := .tuple #[.agg #[.int .i64 wd, .int .i64 hi, .slice (some ⟨q, 0, none⟩) N vc], .bool true]) (by simp [results, Try.results30, go_sem, d0, d1, d2]) rfl ?_
      have hbb := HBA.out.trans (HO.out.2.mono HBA.out.size)
      have ho := (((HO.out.1.set (a := ⟨w.heap.size, 0, none⟩) (by simp; omega) (.int .i64 wd)).set (a := ⟨w.heap.size, 1, none⟩) (by simp; omega) (.int .i64 hi)).set (a := ⟨w.heap.size, 2, none⟩) (by simp; omega) (.slice (some ⟨q, 0, none⟩) N vc))
      exact ⟨q, vc, rfl, ho.sl, (ho.lt (k := q) rfl).2, by omega, ((hbb.setCell (by simp) _).setCell (by simp) _).setCell (by simp) _⟩

end Go.Proofs.Ytmpbnmmpniganaa
