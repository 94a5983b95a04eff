/- Maps that are read from texts: the reference's; pictures and maps: the program's. -/
import Derived.Test.YtcppoadeelnphaaDoorCv
import Derived.Test.YtcppoadeelnphaaDoorPic
namespace Go.Proofs.YtcppoadeelnphaaDoor
open Go.RowKit Ieee
set_option maxRecDepth 100000
set_option linter.unusedVariables false
set_option linter.unusedSimpArgs false

set_option maxHeartbeats 2000000 in
theorem sReadMap_any (w : World) (s : ByteArray) (hs : s.size ≤ 2000000) :
    Calls Tryd.prog 11 #[.string s] w (PRes (picT s.data.toList) w) := by
  obtain ⟨W0, hW0⟩ : ∃ W0, W0 = w.alloc (.cells #[.int .i64 0, .int .i64 0, .slice none 0 0] 31) := ⟨_, rfl⟩
  have hb0 : Below w.heap.size w W0 := by rw [hW0]; exact (Below.refl _ _).alloc (Nat.le_refl _) _
  have BZ : BoxN W0 w.heap.size #[.int .i64 0, .int .i64 0, .slice none 0 0] 31 := by rw [hW0]; exact BoxN.last w _ _
  have KR := s08Read_any W0 s 2 (by omega) hs
  rw [show ((2 : Nat) : Int) = 2 from rfl] at KR
  obtain ⟨t, ht⟩ : ∃ t, t = picT s.data.toList := ⟨_, rfl⟩
  rw [← ht]
  unfold picT at ht
  obtain ⟨o, ho⟩ : ∃ o, o = rdS 2 s.data.toList := ⟨_, rfl⟩
  have hlen : ∀ zs bs, o = some (zs, bs) → zs.length = 2 := fun zs bs h => rd_len (ho ▸ h)
  rw [← ho] at KR ht
  have KR := Lib.hid KR
  have HW0 := Lib.hid hW0
  have HB := Lib.hid (And.intro hb0 BZ)
  have HT := Lib.hid ht
  clear hb0 BZ hW0 ho ht hs
  cases o with
  | none =>
    have htt : t = noPi := HT.out
    subst htt
    clear hlen HT
    go_enter Tryd.func11, Tryd.ntmps11
    go_wp2_with fail
    rw [← HW0.out]
    refine KR.out.mono ?_
    rintro e w1 ⟨va, vb, rfl, -, hb1⟩
    have hF := HB.out.1.trans (hb1.mono HB.out.1.size)
    have bx := HB.out.2.below hb1
    obtain ⟨d0, d1, d2, e0, e1, e2⟩ := bx.threeF
    have hlt3 := bx.lt
    go_wp2_with fail
    refine bodyPost_ret (v := .tuple #[.agg #[.int .i64 0, .int .i64 0, .slice none 0 0], .bool false]) (by simp [results, Tryd.results11, go_sem, d0, d1, d2, hlt3]) rfl ?_
    exact PRes.no (below_set3 hF (Nat.le_refl _) _ _ _)
  | some zb =>
    obtain ⟨zs, bs⟩ := zb
    obtain ⟨a, b, rfl⟩ : ∃ a b, zs = [a, b] := by
      have h2 := hlen zs bs rfl
      match zs, h2 with
      | [a, b], _ => exact ⟨a, b, rfl⟩
    have htt : t = if vPic a b bs.length = true then ⟨a, b, bs, true⟩ else noPi := HT.out
    have HT := Lib.hid htt
    clear hlen htt
    obtain ⟨n, hn⟩ : ∃ n, bs.length = n := ⟨_, rfl⟩
    have HN := Lib.hid hn
    clear hn
    go_enter Tryd.func11, Tryd.ntmps11
    go_wp2_with fail
    rw [← HW0.out]
    refine KR.out.mono ?_
    rintro e w1 ⟨va, vb, rfl, hown, hb1⟩
    obtain ⟨oz, of⟩ := hown _ _ rfl
    obtain ⟨g, cz, rfl, hgl⟩ : ∃ g cz, va = .slice (some ⟨g, 0, none⟩) 2 cz ∧ g < w1.heap.size := by
      rcases oz.2 with ⟨_, q⟩ | ⟨g, cap, cur, e, r⟩
      · simp at q
      · subst e; exact ⟨g, cap, rfl, (oz.lt (k := g) rfl).2⟩
    obtain ⟨sf, cf, rfl, hn63⟩ : ∃ s c, vb = .slice s n c ∧ n ≤ 9223372036854775807 := by
      rcases of.form with ⟨q, q2⟩ | ⟨g, cap, e, hle⟩
      · exact ⟨none, 0, by rw [q, ← HN.out, q2]; rfl, by rw [← HN.out, q2]; simp⟩
      · exact ⟨_, cap, by rw [e, HN.out], by rw [← HN.out]; unfold maxLen at hle; omega⟩
    have HN63 := Lib.hid hn63
    clear hn63
    have z0 : w1.cell? ⟨g, 0, none⟩ = some (.int .i64 a) := oz.cellAt 0 (by simp)
    have z1 : w1.cell? ⟨g, 1, none⟩ = some (.int .i64 b) := oz.cellAt 1 (by simp)
    have HF := Lib.hid (And.intro (HB.out.1.trans (hb1.mono HB.out.1.size)) (And.intro (HB.out.2.below hb1) of))
    have hs1 := hb1.size
    clear hown hb1 oz of
    have SV := Lib.hid (fun W (hW : Below w1.heap.size w1 W) => (show (W.cell? ⟨g, 0, none⟩ = some (.int .i64 a) ∧ W.cell? ⟨g, 1, none⟩ = some (.int .i64 b)) from ⟨(hW.cell (p := ⟨g, 0, none⟩) hgl).trans z0, (hW.cell (p := ⟨g, 1, none⟩) hgl).trans z1⟩))
    clear z0 z1
    go_upto_region 5 with fail
    have hA1 : Below w1.heap.size w1 w1.drew := below_drewN (Below.refl _ _) 1
    have hA2 := hA1.alloc hA1.size (.cells #[.int .i64 0, .int .i64 0, .slice none 0 0] 31)
    go_region_held3 (fun W => W.cell? ⟨g, 0, none⟩ = some (.int .i64 a) ∧ W.cell? ⟨g, 1, none⟩ = some (.int .i64 b))
      (first | exact SV.out _ hA1 | exact SV.out _ hA2 | exact SV.out _ (below_drewN (belowA (Below.refl _ _) _) 1) | exact SV.out _ (belowA (Below.refl _ _) _) | exact SV.out _ (belowA hA1 _) | go_keep)
      (fail)
    obtain ⟨w5, hw5⟩ : ∃ W, W = (w1.alloc (.cells #[.int .i64 a, .int .i64 b, .slice sf n cf] 31)).drew := ⟨_, rfl⟩
    have hb5 : Below w1.heap.size w1 w5 := by rw [hw5]; exact below_drewN (belowA (Below.refl _ _) _) 1
    have bx5 : BoxN w5 w1.heap.size #[.int .i64 a, .int .i64 b, .slice sf n cf] 31 := by rw [hw5]; exact (BoxN.last w1 _ _).drewN 1
    rw [← hw5]
    have H5 := Lib.hid (And.intro (HF.out.1.trans (hb5.mono HF.out.1.size)) (And.intro (HF.out.2.1.below hb5) (And.intro (HF.out.2.2.below hb5) bx5)))
    have KI := Lib.hid (l03IsMap_gen w5 w1.heap.size 0 a b sf n cf HN63.out (bx5.cell 0) (bx5.cell 1) (bx5.cell 2))
    clear hw5 hb5 bx5 hA1 hA2
    go_wp2_with fail
    refine KI.out.mono ?_
    rintro e w6 ⟨rfl, m, rfl⟩
    obtain ⟨w6, hw6⟩ : ∃ W, W = w5.drewN m := ⟨_, rfl⟩
    have hb6 : Below w5.heap.size w5 w6 := by rw [hw6]; exact below_drewN (Below.refl _ _) m
    rw [← hw6]
    have H6 := Lib.hid (And.intro (H5.out.1.trans (hb6.mono H5.out.1.size)) (And.intro (H5.out.2.1.below hb6) (And.intro (H5.out.2.2.1.below hb6) (H5.out.2.2.2.below hb6))))
    obtain ⟨d0, d1, d2, e0, e1, e2⟩ := H6.out.2.1.threeF
    obtain ⟨p0, p1, p2, _, _, _⟩ := H6.out.2.2.2.threeF
    have hlt3 := H6.out.2.1.lt
    have hlt4 := H6.out.2.2.2.lt
    have hne : w1.heap.size ≠ w.heap.size := by have := HB.out.2.lt; omega
    clear hw6 hb6
    cases hok : vPic a b n
    · have htt : t = noPi := by rw [HT.out, HN.out, hok]; rfl
      subst htt
      go_wp2_with fail
      refine bodyPost_ret (v := .tuple #[.agg #[.int .i64 0, .int .i64 0, .slice none 0 0], .bool false]) (by simp [results, Tryd.results11, go_sem, d0, d1, d2, hlt3]) rfl ?_
      exact PRes.no (below_set3 H6.out.1 (Nat.le_refl _) _ _ _)
    · have htt : t = ⟨a, b, bs, true⟩ := by rw [HT.out, HN.out, hok]; rfl
      subst htt
      go_wp2_with fail
      refine bodyPost_ret (v := .tuple #[.agg #[.int .i64 a, .int .i64 b, .slice sf n cf], .bool true]) (by simp [results, Tryd.results11, go_sem, d0, d1, d2, hlt3]) rfl ?_
      exact PRes.yes HN.out H6.out.1 H6.out.2.2.1 HB.out.2.lt

theorem PRes.drew {t : PiT} {w W : World} {e : Ending} (h : PRes t w e W) : PRes t w e W.drew := by
  obtain ⟨s, c, he, ho, hb⟩ := h
  exact ⟨s, c, he, ho.drewN 1, below_drewN hb 1⟩

set_option maxHeartbeats 4000000 in
theorem iReadPicture_any (w : World) (s : ByteArray) (m : Int) (hs : s.size ≤ 2000000) (hm : w.cell? ⟨0, 0, none⟩ = some (.int .i64 m)) (het : ErrT w) (htb : TabT w) :
    Calls Tryd.prog 7 #[.string s] w (PRes (picT s.data.toList) w) := by
  obtain ⟨W0, hW0⟩ : ∃ W0, W0 = w.alloc (.cells #[.int .i64 0, .int .i64 0, .slice none 0 0] 24) := ⟨_, rfl⟩
  have hb0 : Below w.heap.size w W0 := by rw [hW0]; exact (Below.refl _ _).alloc (Nat.le_refl _) _
  have BZ : BoxN W0 w.heap.size #[.int .i64 0, .int .i64 0, .slice none 0 0] 24 := by rw [hW0]; exact BoxN.last w _ _
  have KR := readSized_any W0 s 2 m (by omega) hs ((hb0.cell (p := ⟨0, 0, none⟩) (World.block_lt_of_cell? _ _ hm)).trans hm) (het.below hb0) (htb.below hb0)
  rw [show ((2 : Nat) : Int) = 2 from rfl, rd_same] at KR
  obtain ⟨t, ht⟩ : ∃ t, t = picT s.data.toList := ⟨_, rfl⟩
  rw [← ht]
  unfold picT at ht
  obtain ⟨o, ho⟩ : ∃ o, o = rdS 2 s.data.toList := ⟨_, rfl⟩
  have hlen : ∀ zs bs, o = some (zs, bs) → zs.length = 2 := fun zs bs h => rd_len (ho ▸ h)
  rw [← ho] at KR ht
  have KR := Lib.hid KR
  have HW0 := Lib.hid hW0
  have HB := Lib.hid (And.intro hb0 BZ)
  have HT := Lib.hid ht
  clear hb0 BZ hW0 ho ht hs hm het htb
  cases o with
  | none =>
    have htt : t = noPi := HT.out
    subst htt
    clear hlen HT
    go_enter Tryd.func7, Tryd.ntmps7
    go_wp2_with fail
    rw [← HW0.out]
    refine KR.out.mono ?_
    rintro e w1 ⟨va, vb, rfl, -, hb1⟩
    have hF := HB.out.1.trans (hb1.mono HB.out.1.size)
    have bx := HB.out.2.below hb1
    obtain ⟨d0, d1, d2, e0, e1, e2⟩ := bx.threeF
    have hlt3 := bx.lt
    go_wp2_with fail
    go_quiet (fail)
    obtain ⟨d0, d1, d2, e0, e1, e2⟩ := (bx.drewN nq).threeF
    have hlt3 := (bx.drewN nq).lt
    have hF2 := below_drewN hF nq
    go_wp2_with fail
    refine bodyPost_ret (v := .tuple #[.agg #[.int .i64 0, .int .i64 0, .slice none 0 0], .bool false]) (by simp [results, Tryd.results7, go_sem, d0, d1, d2, hlt3]) rfl ?_
    exact PRes.no (below_set3 hF2 (Nat.le_refl _) _ _ _)
  | some zb =>
    obtain ⟨zs, bs⟩ := zb
    obtain ⟨a, b, rfl⟩ : ∃ a b, zs = [a, b] := by
      have h2 := hlen zs bs rfl
      match zs, h2 with
      | [a, b], _ => exact ⟨a, b, rfl⟩
    have htt : t = if vPic a b bs.length = true then ⟨a, b, bs, true⟩ else noPi := HT.out
    have HT := Lib.hid htt
    clear hlen htt
    obtain ⟨n, hn⟩ : ∃ n, bs.length = n := ⟨_, rfl⟩
    have HN := Lib.hid hn
    clear hn
    go_enter Tryd.func7, Tryd.ntmps7
    go_wp2_with fail
    rw [← HW0.out]
    refine KR.out.mono ?_
    rintro e w1 ⟨va, vb, rfl, hown, hb1⟩
    obtain ⟨oz, of⟩ := hown _ _ rfl
    obtain ⟨g, cz, rfl, hgl, hgB⟩ : ∃ g cz, va = .slice (some ⟨g, 0, none⟩) 2 cz ∧ g < w1.heap.size ∧ W0.heap.size ≤ g := by
      rcases oz.2 with ⟨_, q⟩ | ⟨g, cap, cur, e, r⟩
      · simp at q
      · subst e; exact ⟨g, cap, rfl, (oz.lt (k := g) rfl).2, (oz.lt (k := g) rfl).1⟩
    obtain ⟨sf, cf, rfl, hn63⟩ : ∃ s c, vb = .slice s n c ∧ n ≤ 9223372036854775807 := by
      rcases of.form with ⟨q, q2⟩ | ⟨g, cap, e, hle⟩
      · exact ⟨none, 0, by rw [q, ← HN.out, q2]; rfl, by rw [← HN.out, q2]; simp⟩
      · exact ⟨_, cap, by rw [e, HN.out], by rw [← HN.out]; unfold maxLen at hle; omega⟩
    have HN63 := Lib.hid hn63
    clear hn63
    have hgne : g ≠ w.heap.size := by have := HB.out.2.lt; omega
    have z0 : w1.cell? ⟨g, 0, none⟩ = some (.int .i64 a) := oz.cellAt 0 (by simp)
    have z1 : w1.cell? ⟨g, 1, none⟩ = some (.int .i64 b) := oz.cellAt 1 (by simp)
    have HF := Lib.hid (And.intro (HB.out.1.trans (hb1.mono HB.out.1.size)) (And.intro (HB.out.2.below hb1) of))
    have hs1 := hb1.size
    have SV := Lib.hid (fun W (hW : Below w1.heap.size w1 W) => (show (W.cell? ⟨g, 0, none⟩ = some (.int .i64 a) ∧ W.cell? ⟨g, 1, none⟩ = some (.int .i64 b)) from ⟨(hW.cell (p := ⟨g, 0, none⟩) hgl).trans z0, (hW.cell (p := ⟨g, 1, none⟩) hgl).trans z1⟩))
    have KV := Lib.hid (fun W => validPicture_any a b sf n cf HN63.out W)
    clear z0 z1 hown hb1 oz of
    go_wp2_with fail
    have hA1 : Below w1.heap.size w1 w1.drew := below_drewN (Below.refl _ _) 1
    go_region_held3 (fun W => W.cell? ⟨g, 0, none⟩ = some (.int .i64 a) ∧ W.cell? ⟨g, 1, none⟩ = some (.int .i64 b))
      (first | exact SV.out _ hbS | exact SV.out _ hA1 | exact SV.out _ (below_drewN (Below.refl _ _) _) | go_keep)
      (first
        | (go_at_call 23; (with_reducible refine (KV.out _).mono ?_); rintro e wS ⟨rfl, hbS1⟩; have hbS := hA1.trans (hbS1.mono hA1.size)))
    have hs5 := SV.out _ hbS
    have H5 := Lib.hid (And.intro (HF.out.1.trans (hbS.mono HF.out.1.size)) (And.intro (HF.out.2.1.below hbS) (HF.out.2.2.below hbS)))
    have hgl5 := Nat.lt_of_lt_of_le hgl hbS.size
    obtain ⟨d0, d1, d2, e0, e1, e2⟩ := H5.out.2.1.threeF
    have hlt3 := H5.out.2.1.lt
    clear hbS1 hbS hA1
    cases hok : vPic a b n
    · have htt : t = noPi := by rw [HT.out, HN.out, hok]; rfl
      subst htt
      go_wp2_with fail
      refine bodyPost_ret (v := .tuple #[.agg #[.int .i64 0, .int .i64 0, .slice none 0 0], .bool false]) (by simp [results, Tryd.results7, go_sem, d0, d1, d2, hlt3]) rfl ?_
      exact PRes.no (below_set3 H5.out.1 (Nat.le_refl _) _ _ _)
    · have htt : t = ⟨a, b, bs, true⟩ := by rw [HT.out, HN.out, hok]; rfl
      subst htt
      obtain ⟨z0, z1⟩ := hs5
      go_wp2_with fail
      go_region
      go_wp2_with fail
      refine bodyPost_ret (v := .tuple #[.agg #[.int .i64 a, .int .i64 b, .slice sf n cf], .bool true]) (by simp [results, Tryd.results7, go_sem, d0, d1, d2, hlt3]) rfl ?_
      exact PRes.drew (PRes.yes HN.out H5.out.1 H5.out.2.2 HB.out.2.lt)

set_option maxHeartbeats 4000000 in
theorem iReadMap_any (w : World) (s : ByteArray) (m : Int) (hs : s.size ≤ 2000000) (hm : w.cell? ⟨0, 0, none⟩ = some (.int .i64 m)) (het : ErrT w) (htb : TabT w) :
    Calls Tryd.prog 12 #[.string s] w (PRes (picT s.data.toList) w) := by
  obtain ⟨W0, hW0⟩ : ∃ W0, W0 = w.alloc (.cells #[.int .i64 0, .int .i64 0, .slice none 0 0] 31) := ⟨_, rfl⟩
  have hb0 : Below w.heap.size w W0 := by rw [hW0]; exact (Below.refl _ _).alloc (Nat.le_refl _) _
  have BZ : BoxN W0 w.heap.size #[.int .i64 0, .int .i64 0, .slice none 0 0] 31 := by rw [hW0]; exact BoxN.last w _ _
  have KR := Lib.hid (iReadPicture_any W0 s m hs ((hb0.cell (p := ⟨0, 0, none⟩) (World.block_lt_of_cell? _ _ hm)).trans hm) (het.below hb0) (htb.below hb0))
  obtain ⟨t, ht⟩ : ∃ t, t = picT s.data.toList := ⟨_, rfl⟩
  rw [← ht] at KR ⊢
  have hno : t.ok = false → t = noPi := by
    rw [ht]
    unfold picT
    split
    · split
      · intro h; cases h
      · intro _; rfl
    · intro _; rfl
  have HNO := Lib.hid hno
  have HW0 := Lib.hid hW0
  have HB := Lib.hid (And.intro hb0 BZ)
  clear hb0 BZ hW0 ht hs hm het htb hno
  go_enter Tryd.func12, Tryd.ntmps12
  go_wp2_with fail
  rw [← HW0.out]
  refine KR.out.mono ?_
  rintro e w1 ⟨sf, cf, rfl, ho, hb1⟩
  obtain ⟨n, hn⟩ : ∃ n, t.L.length = n := ⟨_, rfl⟩
  have HN := Lib.hid hn
  rw [hn] at ho ⊢
  clear hn
  obtain ⟨w5, hw5⟩ : ∃ W, W = w1.alloc (.cells #[.int .i64 t.a, .int .i64 t.b, .slice sf n cf] 24) := ⟨_, rfl⟩
  have hb5 : Below w1.heap.size w1 w5 := by rw [hw5]; exact belowA (Below.refl _ _) _
  have bx5 : BoxN w5 w1.heap.size #[.int .i64 t.a, .int .i64 t.b, .slice sf n cf] 24 := by rw [hw5]; exact BoxN.last w1 _ _
  have hb15 := hb1.trans (hb5.mono hb1.size)
  have H5 := Lib.hid (And.intro (HB.out.1.trans (hb15.mono HB.out.1.size)) (And.intro (HB.out.2.below hb15) (ho.below hb5)))
  obtain ⟨d0, d1, d2, e0, e1, e2⟩ := H5.out.2.1.threeF
  obtain ⟨p0, p1, p2, _, _, _⟩ := bx5.threeF
  have hlt3 := H5.out.2.1.lt
  have hlt4 := bx5.lt
  have hne : w1.heap.size ≠ w.heap.size := by have := HB.out.2.lt; have := hb1.size; omega
  have HW5 := Lib.hid hw5
  rw [hw5] at d0 d1 d2 e0 e1 e2 p0 p1 p2 hlt3 hlt4
  clear hw5 hb5 bx5 hb15 hb1 ho
  cases hok : t.ok
  · have htt : t = noPi := HNO.out hok
    subst htt
    go_wp2_with fail
    rw [← HW5.out] at d0 d1 d2 hlt3 ⊢
    refine bodyPost_ret (v := .tuple #[.agg #[.int .i64 0, .int .i64 0, .slice none 0 0], .bool false]) (by simp [results, Tryd.results12, go_sem, d0, d1, d2, hlt3]) rfl ?_
    exact PRes.no (below_set3 H5.out.1 (Nat.le_refl _) _ _ _)
  · have htt : t = ⟨t.a, t.b, t.L, true⟩ := by rw [← hok]
    have HTT := Lib.hid htt
    clear htt
    go_wp2_with fail
    rw [← HW5.out] at d0 d1 d2 hlt3 ⊢
    refine bodyPost_ret (v := .tuple #[.agg #[.int .i64 t.a, .int .i64 t.b, .slice sf n cf], .bool true]) (by simp [results, Tryd.results12, go_sem, d0, d1, d2, hlt3]) rfl ?_
    have h9 := PRes.yes (a := t.a) (b := t.b) (x := .int .i64 t.a) (y := .int .i64 t.b) (z := .slice sf n cf) HN.out H5.out.1 H5.out.2.2 HB.out.2.lt
    rw [← HTT.out] at h9
    exact h9

end Go.Proofs.YtcppoadeelnphaaDoor
