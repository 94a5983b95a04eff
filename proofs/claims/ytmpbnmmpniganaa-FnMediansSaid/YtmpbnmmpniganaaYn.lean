/- GuidedMap with a flat guide: means of windows, or the map itself. -/
import Derived.Test.YtmpbnmmpniganaaYm
namespace Go.Proofs.Ytmpbnmmpniganaa
open Go.RowKit
set_option maxRecDepth 100000
set_option linter.unusedVariables false
set_option linter.unusedSimpArgs false

theorem mn_between {lo hi : Int} : ∀ (L : List Int) (h : ∀ k ∈ L, 0 ≤ k → lo ≤ k ∧ k ≤ hi) (o : Int × Nat), lo * o.2 ≤ o.1 → o.1 ≤ hi * o.2 → lo * (L.foldl mnS o).2 ≤ (L.foldl mnS o).1 ∧ (L.foldl mnS o).1 ≤ hi * (L.foldl mnS o).2
  | [], _, o, h1, h2 => ⟨h1, h2⟩
  | a :: L, h, o, h1, h2 => by
    rw [List.foldl_cons]
    refine mn_between L (fun k hk => h k (by simp [hk])) _ ?_ ?_
    · unfold mnS; split
      · exact h1
      · have := (h a (by simp) (by omega)).1
        show lo * ((o.2 + 1 : Nat) : Int) ≤ o.1 + a
        rw [Int.natCast_succ, Int.mul_add, Int.mul_one]; omega
    · unfold mnS; split
      · exact h2
      · have := (h a (by simp) (by omega)).2
        show o.1 + a ≤ hi * ((o.2 + 1 : Nat) : Int)
        rw [Int.natCast_succ, Int.mul_add, Int.mul_one]; omega
theorem mn_some : ∀ (L : List Int) (o : Int × Nat), o.2 ≤ (L.foldl mnS o).2 ∧ ((∃ k ∈ L, 0 ≤ k) → o.2 < (L.foldl mnS o).2)
  | [], o => ⟨Nat.le_refl _, by simp⟩
  | a :: L, o => by
    rw [List.foldl_cons]
    have ih := mn_some L (mnS o a)
    have hs : o.2 ≤ (mnS o a).2 := by unfold mnS; split <;> simp
    refine ⟨Nat.le_trans hs ih.1, ?_⟩
    rintro ⟨k, hk, h0⟩
    rcases List.mem_cons.1 hk with rfl | hk
    · have : (mnS o k).2 = o.2 + 1 := by unfold mnS; rw [if_neg (by omega)]
      omega
    · have := ih.2 ⟨k, hk, h0⟩; omega
/-- The mean of the values among some numbers. -/
def meanW (L : List Int) : Nat := (floatBits .quo .f32 (fq 2 (mnF L).1) (fq 0 ((mnF L).2 : Nat))).getD 0
theorem meanW_ok {L : List Int} {lo hi : Int} (hlen : L.length ≤ 600) (hb : ∀ k ∈ L, k.natAbs ≤ 1000) (h : ∀ k ∈ L, 0 ≤ k → lo ≤ k ∧ k ≤ hi) (hs : ∃ k ∈ L, 0 ≤ k) (hlo : lo.natAbs ≤ 1000) (hhi : hi.natAbs ≤ 1000) :
    (mnF L).2 ≠ 0 ∧ floatBits .quo .f32 (fq 2 (mnF L).1) (fq 0 ((mnF L).2 : Nat)) = some (meanW L) ∧ fin32 (meanW L) = true ∧ meanW L < 4294967296 ∧ vv (fq 2 lo) ≤ vv (meanW L) ∧ vv (meanW L) ≤ vv (fq 2 hi) := by
  have h1 : 0 < (mnF L).2 := (mn_some L (0, 0)).2 hs
  obtain ⟨b1, b2, b3⟩ := mn_bd L hb (0, 0) (by decide) (by decide)
  obtain ⟨c1, c2⟩ := mn_between L h (0, 0) (by simp) (by simp)
  have b1 : 0 ≤ (mnF L).1 := b1
  have b2 : (mnF L).1 ≤ 1000 * ((mnF L).2 : Int) := b2
  have b3 : (mnF L).2 ≤ 0 + L.length := b3
  obtain ⟨r, hr, f1, f2, f3, f4⟩ := quo_q (s := (mnF L).1) (m := ((mnF L).2 : Nat)) (lo := lo) (hi := hi) b1 (by omega) (by omega) (by omega) (by omega) (by omega) c1 c2
  have e : meanW L = r := by unfold meanW; rw [hr]; rfl
  rw [e]
  exact ⟨by omega, hr, f1, f2, f3, f4⟩

/-- The cells that are seen from a cell. -/
def seenL (ks : List Int) (wd hi r i : Nat) : List Int := lsa ks (visL wd (i % wd) (i / wd) r (wd * hi))
theorem seen_len (ks : List Int) (wd hi r i : Nat) : (seenL ks wd hi r i).length ≤ wd * hi := by
  unfold seenL lsa; rw [List.length_map]; exact visL_len _ _ _ _ _
theorem seen_mem {ks : List Int} {wd hi r i : Nat} {k : Int} (h : k ∈ seenL ks wd hi r i) : ∃ j, j < wd * hi ∧ k = ks.getD j 0 := by
  unfold seenL lsa at h
  obtain ⟨j, hj, e⟩ := List.mem_map.1 h
  unfold visL at hj
  exact ⟨j, List.mem_range.1 (List.mem_filter.1 hj).1, e.symm⟩
theorem seen_own {ks : List Int} {wd hi r i : Nat} (h : i < wd * hi) : ks.getD i 0 ∈ seenL ks wd hi r i := by
  unfold seenL lsa
  refine List.mem_map.2 ⟨i, ?_, rfl⟩
  unfold visL
  refine List.mem_filter.2 ⟨List.mem_range.2 h, ?_⟩
  unfold inW; simp
/-- What GuidedMap tells, where all cells look alike (mo = 0) or none does. -/
def gdV (ks : List Int) (wd hi r : Nat) (mo : Int) (i : Nat) : Nat := if ks.getD i 0 < 0 then fq 2 (-4) else if mo = 0 then meanW (seenL ks wd hi r i) else fq 2 (ks.getD i 0)

set_option maxHeartbeats 4000000 in
theorem gd_call (W : World) (pb gb rb nb wd hi N r : Nat) (va vg : Value) (ks : List Int) (mo : Int) (hmo : mo = 0 ∨ mo = -4) (x y : Nat) (hx : x < wd) (hy : y < hi) (hw : wd ≤ 24) (hh : hi ≤ 24) (hr : r ≤ 24) (hN : wd * hi ≤ 256) (hkb : ∀ i, (ks.getD i 0).natAbs ≤ 1000)
    (hm : PicAt W pb wd hi va (ks.map (fq 2)) 27) (hg : PicAt W gb wd hi vg (List.replicate (wd * hi) (fq 2 4)) 37) (hrb : BoxN W rb #[.int .i64 r] 2) (hnb : BoxN W nb #[.float .f32 (fq 2 mo)] 33) :
    Calls Try.prog 82 #[.int .i64 x, .int .i64 y, .pointer (some ⟨pb, 0, none⟩), .pointer (some ⟨rb, 0, none⟩), .pointer (some ⟨gb, 0, none⟩), .pointer (some ⟨nb, 0, none⟩)] W fun e w' => e = .returned (.float .f32 (gdV ks wd hi r mo (x + wd * y))) ∧ Below W.heap.size W w' := by
  obtain ⟨W1, hW1⟩ : ∃ W1, W1 = (W.alloc (.cells #[.int .i64 x] 2)).alloc (.cells #[.int .i64 y] 2) := ⟨_, rfl⟩
  have hb1 : Below W.heap.size W W1 := by rw [hW1]; exact below_two _ _ _
  have hs1 : W1.heap.size = W.heap.size + 2 := by rw [hW1]; simp
  have hxb : BoxN W1 W.heap.size #[.int .i64 x] 2 := by rw [hW1]; exact BoxN.first _ _ _ _
  have hyb : BoxN W1 (W.heap.size + 1) #[.int .i64 y] 2 := by rw [hW1]; exact BoxN.second _ _ _ _
  have hG : GdW W1 pb gb W.heap.size (W.heap.size + 1) nb wd hi x y va vg ks mo := ⟨hm.below hb1, hg.below hb1, hxb, hyb, hnb.below hb1⟩
  have hRB := hrb.below hb1
  have KA := Lib.hid (fun W' (hb : Below W1.heap.size W1 W') => mat_q W' pb wd hi va ks x y x y rfl rfl hx hy (by omega) (by omega) (hG.m.below hb))
  have KH := Lib.hid (fun W' => isHole_any (fq 2 (ks.getD (x + wd * y) 0)) W')
  have hle := le0_fq (k := ks.getD (x + wd * y) 0) (by have := hkb (x + wd * y); omega)
  have HB1 := Lib.hid hb1
  have HW1 := Lib.hid hW1
  have HS1 := Lib.hid hs1
  have HG := Lib.hid hG
  have HRB := Lib.hid hRB
  have z1 : W1.cell? ⟨W.heap.size, 0, none⟩ = some (.int .i64 x) := hxb.cell 0
  have z2 : W1.cell? ⟨W.heap.size + 1, 0, none⟩ = some (.int .i64 y) := hyb.cell 0
  clear hb1 hW1 hs1 hxb hyb hG hRB hm hg hrb hnb
  by_cases hk : ks.getD (x + wd * y) 0 < 0
  · have eV : gdV ks wd hi r mo (x + wd * y) = fq 2 (-4) := by unfold gdV; rw [if_pos hk]
    have cm : fq 2 (-4) = 3212836864 := by decide +kernel
    rw [eV, cm]
    rw [decide_eq_false (by omega)] at hle
    rw [hle] at KH
    generalize fq 2 (ks.getD (x + wd * y) 0) = vk at KA KH
    clear hle eV cm hk hkb
    go_enter Try.func82, Try.ntmps82
    go_upto_region 1 with fail
    rw [← HW1.out]
    go_wp2_with fail
    refine (KA.out _ (Below.refl _ _)).mono ?_
    rintro e w1 ⟨rfl, n1, hw1⟩
    have hbw : Below W.heap.size W w1 := by rw [hw1]; exact below_drewN HB1.out _
    have HBW := Lib.hid hbw
    clear hbw hw1 z1 z2
    go_wp2_with fail
    refine (KH.out _).mono ?_
    rintro e w2 ⟨rfl, rfl⟩
    go_wp2
    go_ret
    exact ⟨rfl, HBW.out⟩
  · have hk0 : 0 ≤ ks.getD (x + wd * y) 0 := by omega
    rw [decide_eq_true hk0] at hle
    rw [hle] at KH
    have eV : gdV ks wd hi r mo (x + wd * y) = if mo = 0 then meanW (seenL ks wd hi r (x + wd * y)) else fq 2 (ks.getD (x + wd * y) 0) := by unfold gdV; rw [if_neg hk]
    rw [eV]
    have eS : seenL ks wd hi r (x + wd * y) = lsa ks (visL wd x y r (wd * hi)) := by unfold seenL; rw [xy_mod hx, xy_div hx]
    have hso := seen_own (ks := ks) (wd := wd) (hi := hi) (r := r) (xy_lt hx hy)
    have hsl := seen_len ks wd hi r (x + wd * y)
    have hsb : ∀ k ∈ seenL ks wd hi r (x + wd * y), k.natAbs ≤ 1000 := fun k h => by obtain ⟨j, -, e⟩ := seen_mem h; rw [e]; exact hkb j
    have HKB := Lib.hid hkb
    have HK0 := Lib.hid hk0
    obtain ⟨vk, hvk⟩ : ∃ vk, fq 2 (ks.getD (x + wd * y) 0) = vk := ⟨_, rfl⟩
    rw [hvk] at KA KH ⊢
    obtain ⟨vr, hvr⟩ : ∃ vr, (if mo = 0 then meanW (seenL ks wd hi r (x + wd * y)) else vk) = vr := ⟨_, rfl⟩
    rw [hvr]
    have HVR := Lib.hid hvr
    clear hvr
    have HSO := Lib.hid (And.intro hso (And.intro hsl hsb))
    have HES := Lib.hid eS
    clear hle eV eS hk hkb hk0 hso hsl hsb hvk
    go_enter Try.func82, Try.ntmps82
    go_upto_region 1 with fail
    rw [← HW1.out]
    go_wp2_with fail
    refine (KA.out _ (Below.refl _ _)).mono ?_
    rintro e w1 ⟨rfl, n1, hw1⟩
    have hb1 : Below W1.heap.size W1 w1 := by rw [hw1]; exact below_drewN (Below.refl _ _) _
    have hs1 : w1.heap.size = W.heap.size + 2 := by rw [hw1]; exact HS1.out
    have HBW := Lib.hid hb1
    have HSW := Lib.hid hs1
    clear hw1 z1 z2 hb1 hs1
    go_wp2_with fail
    refine (KH.out _).mono ?_
    rintro e w2 ⟨rfl, rfl⟩
    go_upto_region 4 with fail
    obtain ⟨W2, hW2⟩ : ∃ W2, W2 = (w1.alloc (.cells #[] 33)).alloc (.cells #[.slice (some ⟨w1.heap.size, 0, none⟩) 0 0] 25) := ⟨_, rfl⟩
    rw [← hW2]
    have hb2 : Below w1.heap.size w1 W2 := by rw [hW2]; exact below_two _ _ _
    have hA : AccL w1 W2 (w1.heap.size + 1) (.slice (some ⟨w1.heap.size, 0, none⟩) 0 0) [] := by
      refine ⟨hb2, ?_, ⟨⟨rfl, .inr ⟨w1.heap.size, 0, #[], rfl, Nat.le_refl _, ?_, Nat.le_refl _, by unfold maxLen; omega, rfl, rfl⟩⟩, by simp⟩, by simp [Value.ownBlock], by omega⟩
      · rw [hW2]; exact BoxN.second _ _ _ _
      · rw [hW2, heap_alloc_old _ _ (by simp)]
        exact heap_alloc_new w1 _
    have hGw : GdW w1 pb gb W.heap.size (W.heap.size + 1) nb wd hi x y va vg ks mo := HG.out.below HBW.out
    have KW := Lib.hid (window_any W2 pb wd hi x y r 84 #[.pointer (some ⟨gb, 0, none⟩), .pointer (some ⟨W.heap.size, 0, none⟩), .pointer (some ⟨W.heap.size + 1, 0, none⟩), .pointer (some ⟨nb, 0, none⟩), .pointer (some ⟨w1.heap.size + 1, 0, none⟩), .pointer (some ⟨pb, 0, none⟩)] (fun l w => ∃ v, AccL w1 w (w1.heap.size + 1) v ((if mo = 0 then lsa ks l else []).map (fq 2))) hx hy hw hh hr Try.call84
      ⟨_, by have e : ((if mo = 0 then lsa ks [] else []).map (fq 2)) = ([] : List Nat) := by split <;> rfl
             rw [e]; exact hA⟩ (fun l w ⟨v, h⟩ => ⟨(hGw.m.below h.bel).box.cells.1, (hGw.m.below h.bel).box.cells.2.1⟩) (fun l w n ⟨v, h⟩ => ⟨v, h.drewN n⟩)
      (fun u v w hu hv _ ⟨v0, h⟩ => gd_step w1 w pb gb W.heap.size (W.heap.size + 1) nb (w1.heap.size + 1) wd hi x y va vg ks mo hmo _ v0 u v hu hv hw hh HKB.out (by
        have h1 := visL_len wd x y r (u + wd * v)
        have h2 := xy_lt hu hv
        omega) hGw h))
    rw [← HES.out] at KW
    have HGW := Lib.hid hGw
    have z1 : W2.cell? ⟨W.heap.size, 0, none⟩ = some (.int .i64 x) := (hGw.x.below hb2).cell 0
    have z2 : W2.cell? ⟨W.heap.size + 1, 0, none⟩ = some (.int .i64 y) := (hGw.y.below hb2).cell 0
    have z3 : W2.cell? ⟨rb, 0, none⟩ = some (.int .i64 r) := ((HRB.out.below HBW.out).below hb2).cell 0
    clear hW2 hb2 hA hGw
    go_wp2_with fail
    refine KW.out.mono ?_
    rintro e w3 ⟨⟨vv3, rfl⟩, v3, hA3⟩
    have hbW : Below W.heap.size W w3 := (HB1.out.trans (HBW.out.mono HB1.out.size)).trans (hA3.bel.mono (by have := HSW.out; omega))
    have hcl : w3.cell? ⟨w1.heap.size + 1, 0, none⟩ = some v3 := hA3.box.cell 0
    have HBW3 := Lib.hid hbW
    clear z1 z2 z3 KW hbW
    rcases hmo with hmo | hmo
    · rw [if_pos hmo] at hA3
      have hvr := HVR.out
      rw [if_pos hmo] at hvr
      obtain ⟨L, hL⟩ : ∃ L, L = seenL ks wd hi r (x + wd * y) := ⟨_, rfl⟩
      rw [← hL] at hA3 hvr
      have HVL := Lib.hid hvr
      clear hvr HVR
      have h0 : 0 < L.length := by rw [hL]; exact List.length_pos_of_mem HSO.out.1
      obtain ⟨a3, c3, rfl⟩ := hA3.own.sl.len
      obtain ⟨g, rfl⟩ := own_ptr hA3.own (by rw [List.length_map]; exact h0)
      have hmq : MQ w3 g c3 L.length L := by
        have ho := hA3.own
        rw [List.length_map] at ho
        exact ⟨ho.sl, (ho.lt (k := g) rfl).2, by rw [hL]; exact HSO.out.2.2⟩
      have hlen : L.length ≤ 256 := by rw [hL]; exact Nat.le_trans HSO.out.2.1 hN
      have hmw := meanW_ok (L := L) (lo := -1000) (hi := 1000) (by omega) (by rw [hL]; exact HSO.out.2.2) (fun k hk _ => by rw [hL] at hk; have := HSO.out.2.2 k hk; omega) ⟨_, by rw [hL]; exact HSO.out.1, HK0.out⟩ (by decide) (by decide)
      have KM := Lib.hid (mean_q w3 g c3 L.length L hmq hlen)
      rw [List.length_map] at hcl
      have HMW := Lib.hid hmw
      generalize L.length = n at *
      clear hmw hmq hlen hA3 hL hmo h0
      go_wp2_with fail
      refine KM.out.mono ?_
      rintro e w4 ⟨hw4, ⟨h1, rfl⟩ | ⟨h1, r', h2, rfl⟩⟩
      · exact absurd h1 HMW.out.1
      · have er : r' = meanW L := by have := HMW.out.2.1; rw [h2] at this; injection this
        have ER := Lib.hid er
        subst hw4
        clear er h1 h2
        go_wp2
        go_ret
        exact ⟨by rw [← HVL.out, ← ER.out]; rfl, HBW3.out⟩
    · have hm0 : ¬ mo = 0 := by omega
      rw [if_neg hm0] at hA3
      have hvr := HVR.out
      rw [if_neg hm0] at hvr
      have HVL := Lib.hid hvr
      clear hvr HVR
      obtain ⟨a3, c3, rfl⟩ := hA3.own.sl.len
      have hcl0 : w3.cell? ⟨w1.heap.size + 1, 0, none⟩ = some (.slice a3 0 c3) := hcl
      have z1 : w3.cell? ⟨W.heap.size, 0, none⟩ = some (.int .i64 x) := (HGW.out.x.below hA3.bel).cell 0
      have z2 : w3.cell? ⟨W.heap.size + 1, 0, none⟩ = some (.int .i64 y) := (HGW.out.y.below hA3.bel).cell 0
      have KM := Lib.hid (mean_nil w3 a3 c3)
      have hb3 : Below W1.heap.size W1 w3 := HBW.out.trans (hA3.bel.mono HBW.out.size)
      have K2 := Lib.hid (KA.out _ hb3)
      clear hb3 hA3 hcl hm0 hmo
      go_wp2_with fail
      refine KM.out.mono ?_
      rintro e w4 ⟨rfl, rfl⟩
      go_wp2_with fail
      refine K2.out.mono ?_
      rintro e w4 ⟨rfl, n4, hw4⟩
      have HW4 := Lib.hid hw4
      clear hw4 hcl0 z1 z2
      go_wp2
      go_ret
      exact ⟨by rw [← HVL.out]; rfl, by rw [HW4.out]; exact below_drewN HBW3.out _⟩

end Go.Proofs.Ytmpbnmmpniganaa
