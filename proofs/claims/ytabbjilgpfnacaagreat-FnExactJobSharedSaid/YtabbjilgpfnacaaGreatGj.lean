/- JobShared of any arguments: the program's and the reference's. -/
import Derived.Test.YtabbjilgpfnacaaGreatGd
namespace Go.Proofs.YtabbjilgpfnacaaGreat
open Go.RowKit Ieee
set_option maxRecDepth 100000
set_option linter.unusedVariables false
set_option linter.unusedSimpArgs false

/-- The map of a job that is shared among workers. -/
def sharedT (wk : Int) (j : JobX) (p q : Tri) (xs ys : List Nat) : MapT := if decide (1 ≤ wk) && decide (wk ≤ 8) then mapT j p q xs ys else noMap

theorem l07WorkersE (w : World) (n : Int) : Calls Tryz.prog 17 #[.int .i64 n] w fun e w' => e = .returned (.bool (decide (1 ≤ n) && decide (n ≤ 8))) ∧ w = w' := by
  have K := Lib.hid (fun w => s00In_any n 1 8 w)
  go_enter Tryz.func17, Tryz.ntmps17
  go_wp2_with fail
  refine (K.out _).mono ?_
  rintro e w1 ⟨rfl, rfl⟩
  go_wp2_with fail
  go_ret
  exact ⟨rfl, rfl⟩

set_option maxHeartbeats 4000000 in
theorem sJobShared_any (w : World) (wk : Int) (p q : Tri) (j : JobX) (xs ys : List Nat) (hp : SlF w (.slice p.s p.l p.c) xs) (hq : SlF w (.slice q.s q.l q.c) ys) :
    Calls Tryz.prog 5 #[.agg #[.int .i64 p.a, .int .i64 p.b, .slice p.s p.l p.c], .agg #[.int .i64 q.a, .int .i64 q.b, .slice q.s q.l q.c], .agg j.v, .int .i64 wk] w (MRes (sharedT wk j p q xs ys) w) := by
  obtain ⟨W0, hW0⟩ : ∃ W, W = (((w.alloc (.cells #[.int .i64 p.a, .int .i64 p.b, .slice p.s p.l p.c] 35)).alloc (.cells #[.int .i64 q.a, .int .i64 q.b, .slice q.s q.l q.c] 35)).alloc (.cells j.v 39)).alloc (.cells #[.int .i64 0, .int .i64 0, .slice none 0 0] 32) := ⟨_, rfl⟩
  obtain ⟨hb0, B1, B2, BJ, BZ⟩ := fourE hW0
  have A1 : p.at_ W0 w.heap.size 0 := ⟨B1.cells.1, B1.cells.2.1, B1.cells.2.2.1⟩
  have A2 : q.at_ W0 (w.heap.size + 1) 0 := ⟨B2.cells.1, B2.cells.2.1, B2.cells.2.2.1⟩
  have K0 := Lib.hid (l07IsE W0 (w.heap.size + 1 + 1) j BJ)
  have K1 := Lib.hid (fun n => l02TwoE (W0.drewN n) w.heap.size (w.heap.size + 1) 0 0 p q (A1.drewN n) (A2.drewN n) hp.leE.2 hq.leE.2)
  have hnd : ∀ n, Below W0.heap.size W0 (W0.drewN n) := fun n => below_drewN (Below.refl _ _) n
  have KV := Lib.hid (fun n (hj : j.ok = true) (hv : pairV p q = true) => l07MapE (W0.drewN n) w.heap.size (w.heap.size + 1) (w.heap.size + 1 + 1) p q j xs ys ((hp.below hb0).below (hnd n)) ((hq.below hb0).below (hnd n)) (B1.below (hnd n)) (B2.below (hnd n)) (BJ.below (hnd n)) hj hv)
  have HB := Lib.hid (And.intro hb0 BZ)
  have HW0 := Lib.hid hW0
  have KWK := Lib.hid (fun w => l07WorkersE w wk)
  have hsh : sharedT wk j p q xs ys = if decide (1 ≤ wk) && decide (wk ≤ 8) then mapT j p q xs ys else noMap := rfl
  have hjt : mapT j p q xs ys = if j.ok && pairV p q then mapT j p q xs ys else noMap := by
    cases h : j.ok && pairV p q
    · unfold mapT; rw [h]; simp
    · rw [if_pos rfl]
  obtain ⟨t, ht⟩ : ∃ t, mapT j p q xs ys = t := ⟨_, rfl⟩
  rw [ht] at KV
  rw [hsh, hjt, ht]
  obtain ⟨bw, hbw⟩ : ∃ bw, (decide (1 ≤ wk) && decide (wk ≤ 8)) = bw := ⟨_, rfl⟩
  rw [hbw] at KWK ⊢
  clear hsh hbw
  unfold JobX.v at HW0 ⊢
  clear hp hq hb0 B1 B2 BJ BZ A1 A2 hnd hW0 hjt ht
  cases h1 : j.ok
  · rw [h1] at K0
    clear h1 KV
    rw [Bool.false_and, if_neg (show ¬ (false = true) by simp), ite_self]
    go_enter Tryz.func5, Tryz.ntmps5
    go_wp2_with fail
    rw [← HW0.out]
    refine K0.out.mono ?_
    rintro e w1 ⟨rfl, n, rfl⟩
    have hF := below_drewN HB.out.1 n
    obtain ⟨d0, d1, d2, g0, g1, g2⟩ := (HB.out.2.drewN n).three.cells
    have hlt3 := (HB.out.2.drewN n).lt
    go_wp2_with fail
    refine bodyPost_ret (v := .tuple #[.agg #[.int .i64 0, .int .i64 0, .slice none 0 0], .bool false]) (by simp [results, Tryz.results5, go_sem, d0, d1, d2, hlt3]) rfl ?_
    exact MRes.no (((hF.setCell (by simp; omega) _).setCell (by simp; omega) _).setCell (by simp; omega) _)
  · rw [h1] at K0
    rw [Bool.true_and]
    cases h2 : pairV p q
    · rw [h2] at K1
      clear h1 h2 KV
      rw [if_neg (show ¬ (false = true) by simp), ite_self]
      go_enter Tryz.func5, Tryz.ntmps5
      go_wp2_with fail
      rw [← HW0.out]
      refine K0.out.mono ?_
      rintro e w1 ⟨rfl, n, rfl⟩
      go_wp2_with fail
      refine (K1.out n).mono ?_
      rintro e w1 ⟨rfl, n2, hw1⟩
      have hF : Below w.heap.size w w1 := by rw [hw1]; exact below_drewN (below_drewN HB.out.1 n) n2
      have hz : BoxN w1 (w.heap.size + 1 + 1 + 1) #[.int .i64 0, .int .i64 0, .slice none 0 0] 32 := by rw [hw1]; exact (HB.out.2.drewN n).drewN n2
      clear hw1
      obtain ⟨d0, d1, d2, g0, g1, g2⟩ := hz.three.cells
      have hlt3 := hz.lt
      go_wp2_with fail
      refine bodyPost_ret (v := .tuple #[.agg #[.int .i64 0, .int .i64 0, .slice none 0 0], .bool false]) (by simp [results, Tryz.results5, go_sem, d0, d1, d2, hlt3]) rfl ?_
      exact MRes.no (((hF.setCell (by simp; omega) _).setCell (by simp; omega) _).setCell (by simp; omega) _)
    · rw [h2] at K1
      have KV2 := Lib.hid (fun n => KV.out n h1 h2)
      clear h1 h2 KV
      rw [if_pos rfl]
      cases bw
      · rw [if_neg (by simp)]
        clear KV2
        go_enter Tryz.func5, Tryz.ntmps5
        go_wp2_with fail
        rw [← HW0.out]
        refine K0.out.mono ?_
        rintro e w1 ⟨rfl, n, rfl⟩
        go_wp2_with fail
        refine (K1.out n).mono ?_
        rintro e w1 ⟨rfl, n2, rfl⟩
        rw [World.drewN_drewN]
        go_wp2_with fail
        refine (KWK.out _).mono ?_
        rintro e w1 ⟨rfl, rfl⟩
        have hF : Below w.heap.size w (W0.drewN (n + n2)) := below_drewN HB.out.1 _
        have hz : BoxN (W0.drewN (n + n2)) (w.heap.size + 1 + 1 + 1) #[.int .i64 0, .int .i64 0, .slice none 0 0] 32 := HB.out.2.drewN _
        obtain ⟨d0, d1, d2, g0, g1, g2⟩ := hz.three.cells
        have hlt3 := hz.lt
        go_wp2_with fail
        refine bodyPost_ret (v := .tuple #[.agg #[.int .i64 0, .int .i64 0, .slice none 0 0], .bool false]) (by simp [results, Tryz.results5, go_sem, d0, d1, d2, hlt3]) rfl ?_
        exact MRes.no (((hF.setCell (by simp; omega) _).setCell (by simp; omega) _).setCell (by simp; omega) _)
      · rw [if_pos rfl]
        go_enter Tryz.func5, Tryz.ntmps5
        go_wp2_with fail
        rw [← HW0.out]
        refine K0.out.mono ?_
        rintro e w1 ⟨rfl, n, rfl⟩
        go_wp2_with fail
        refine (K1.out n).mono ?_
        rintro e w1 ⟨rfl, n2, rfl⟩
        rw [World.drewN_drewN]
        go_wp2_with fail
        refine (KWK.out _).mono ?_
        rintro e w1 ⟨rfl, rfl⟩
        go_wp2_with fail
        refine (KV2.out _).mono ?_
        rintro e w2 ⟨s, c, bs, rfl, ho, hc, hb⟩
        have hz := (HB.out.2.drewN (n + n2)).below hb
        obtain ⟨d0, d1, d2, g0, g1, g2⟩ := hz.three.cells
        have hlt3 := hz.lt
        have HF := Lib.hid (And.intro ho (And.intro hc hb))
        clear ho hc hb hz
        go_wp2_with fail
        refine bodyPost_ret (v := .tuple #[.agg #[.int .i64 t.a, .int .i64 t.b, .slice s bs.length c], .bool t.ok]) (by simp [results, Tryz.results5, go_sem, d0, d1, d2, hlt3]) rfl ?_
        exact MRes.of_box (below_drewN HB.out.1 (n + n2)) (HB.out.2.drewN (n + n2)).lt (by omega) HF.out.1 HF.out.2.1 HF.out.2.2 _ _ _



set_option maxHeartbeats 4000000 in
theorem iJobShared_any (w : World) (wk : Int) (p q : Tri) (j : JobX) (xs ys : List Nat) (hp : SlF w (.slice p.s p.l p.c) xs) (hq : SlF w (.slice q.s q.l q.c) ys) (ho : j.one < 4294967296) (hm : j.more < 4294967296) :
    Calls Tryz.prog 8 #[.agg #[.int .i64 p.a, .int .i64 p.b, .slice p.s p.l p.c], .agg #[.int .i64 q.a, .int .i64 q.b, .slice q.s q.l q.c], .agg j.v, .int .i64 wk] w (MRes (sharedT wk j p q xs ys) w) := by
  obtain ⟨W0, hW0⟩ : ∃ W, W = (((w.alloc (.cells #[.int .i64 p.a, .int .i64 p.b, .slice p.s p.l p.c] 35)).alloc (.cells #[.int .i64 q.a, .int .i64 q.b, .slice q.s q.l q.c] 35)).alloc (.cells j.v 39)).alloc (.cells #[.int .i64 0, .int .i64 0, .slice none 0 0] 32) := ⟨_, rfl⟩
  obtain ⟨hb0, B1, B2, BJ, BZ⟩ := fourE hW0
  have KV := Lib.hid (iJobMap_any W0 p q j xs ys (hp.below hb0) (hq.below hb0) ho hm)
  have KI := Lib.hid (fun w => in_any wk 1 8 w)
  have HB := Lib.hid (And.intro hb0 BZ)
  have HW0 := Lib.hid hW0
  have hp1 : w.heap.size + 1 + 1 + 1 < W0.heap.size := BZ.lt
  obtain ⟨a0, a1, a2, -, -, -⟩ := B1.cells
  obtain ⟨b0, b1, b2, -, -, -⟩ := B2.cells
  obtain ⟨c0, c1, c2, c3, c4, c5⟩ := six_of_box BJ
  obtain ⟨d0, d1, d2, g0, g1, g2⟩ := BZ.three.cells
  have hlt3 := BZ.lt
  rw [hW0] at a0 a1 a2 b0 b1 b2 c0 c1 c2 c3 c4 c5
  obtain ⟨t, ht⟩ : ∃ t, mapT j p q xs ys = t := ⟨_, rfl⟩
  unfold sharedT
  rw [ht] at KV ⊢
  obtain ⟨bw, hbw⟩ : ∃ bw, (decide (1 ≤ wk) && decide (wk ≤ 8)) = bw := ⟨_, rfl⟩
  rw [hbw] at KI ⊢
  unfold JobX.v at HW0 KV ⊢
  clear hp hq hb0 B1 B2 BJ BZ hW0 ho hm ht hbw
  cases bw
  · rw [if_neg (by simp)]
    clear a0 a1 a2 b0 b1 b2 c0 c1 c2 c3 c4 c5 KV
    go_enter Tryz.func8, Tryz.ntmps8
    go_wp2_with fail
    rw [← HW0.out]
    refine (KI.out _).mono ?_
    rintro e w1 ⟨rfl, rfl⟩
    go_wp2_with fail
    refine bodyPost_ret (v := .tuple #[.agg #[.int .i64 0, .int .i64 0, .slice none 0 0], .bool false]) (by simp [results, Tryz.results8, go_sem, d0, d1, d2, hlt3]) rfl ?_
    exact MRes.no (((HB.out.1.setCell (by simp; omega) _).setCell (by simp; omega) _).setCell (by simp; omega) _)
  · rw [if_pos rfl]
    clear d0 d1 d2 g0 g1 g2 hlt3
    go_enter Tryz.func8, Tryz.ntmps8
    go_wp2_with fail
    refine (KI.out _).mono ?_
    rintro e w1 ⟨rfl, rfl⟩
    go_wp2_with fail
    rw [← HW0.out]
    clear a0 a1 a2 b0 b1 b2 c0 c1 c2 c3 c4 c5
    refine KV.out.mono ?_
    rintro e w4 ⟨s, c4, cs, rfl, ho, hc, hb⟩
    have hz := HB.out.2.below hb
    obtain ⟨d0, y1, y2, g0, g1, g2⟩ := hz.three.cells
    have hlt3 := hz.lt
    have HF := Lib.hid (And.intro ho (And.intro hc hb))
    clear ho hc hb hz
    go_wp2_with fail
    refine bodyPost_ret (v := .tuple #[.agg #[.int .i64 t.a, .int .i64 t.b, .slice s cs.length c4], .bool t.ok]) (by simp [results, Tryz.results8, go_sem, d0, y1, y2, hlt3]) rfl ?_
    exact MRes.of_box HB.out.1 HB.out.2.lt (by omega) HF.out.1 HF.out.2.1 HF.out.2.2 _ _ _
theorem sharedT_len (wk : Int) (j : JobX) (p q : Tri) (xs ys : List Nat) : (sharedT wk j p q xs ys).L.length ≤ 576 := by
  unfold sharedT
  split
  · exact mapT_len _ _ _ _ _
  · simp [noMap]

end Go.Proofs.YtabbjilgpfnacaaGreat
