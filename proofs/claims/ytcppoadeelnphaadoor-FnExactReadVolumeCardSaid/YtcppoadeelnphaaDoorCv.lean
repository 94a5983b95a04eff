/- Pictures that are read from texts: the reference's. -/
import Derived.Test.YtcppoadeelnphaaDoorCu
import Derived.Test.YtcppoadeelnphaaDoorAi
import Derived.Test.YtcppoadeelnphaaDoorSg
namespace Go.Proofs.YtcppoadeelnphaaDoor
open Go.RowKit Ieee
set_option maxRecDepth 100000
set_option linter.unusedVariables false
set_option linter.unusedSimpArgs false

theorem rd_len {k : Nat} {t : List UInt8} {zs : List Int} {bs : List Nat} (h : rdS k t = some (zs, bs)) : zs.length = k := by
  rw [← rd_same] at h
  unfold rdI at h
  simp only at h
  split at h
  · rename_i h9
    injection h with h
    injection h with h1 h2
    rw [← h1]; exact h9.2.2.2
  · cases h
/-- Two sizes and numbers, or nothing. -/
structure PiT where
  a : Int
  b : Int
  L : List Nat
  ok : Bool
def noPi : PiT := ⟨0, 0, [], false⟩
/-- The picture that a text tells. -/
def picT (t : List UInt8) : PiT := match rdS 2 t with
  | some ([a, b], bs) => if vPic a b bs.length = true then ⟨a, b, bs, true⟩ else noPi
  | _ => noPi
theorem numR_len (t : List UInt8) : (numR t).1.length ≤ 256 := by
  unfold numR
  split
  · simp
  · split
    · rename_i h; rw [List.length_map]; exact h.1
    · simp
theorem rd_num {k : Nat} {t : List UInt8} {zs : List Int} {bs : List Nat} (h : rdS k t = some (zs, bs)) : bs.length ≤ 256 := by
  rw [← rd_same] at h
  unfold rdI at h
  simp only at h
  split at h
  · injection h with h
    injection h with h1 h2
    rw [← h2]; exact numR_len _
  · cases h
theorem picT_len (t : List UInt8) : (picT t).L.length ≤ 256 := by
  unfold picT
  split
  · rename_i a b bs h
    split
    · exact rd_num h
    · simp [noPi]
  · simp [noPi]
/-- What a call that reads a picture or a map returns. -/
def PRes (t : PiT) (w : World) (e : Ending) (w' : World) : Prop := ∃ s c, e = .returned (.tuple #[.agg #[.int .i64 t.a, .int .i64 t.b, .slice s t.L.length c], .bool t.ok]) ∧ OwnF w' w.heap.size (.slice s t.L.length c) t.L ∧ Below w.heap.size w w'
theorem PRes.no {w w' : World} (hb : Below w.heap.size w w') : PRes noPi w (.returned (.tuple #[.agg #[.int .i64 0, .int .i64 0, .slice none 0 0], .bool false])) w' :=
  ⟨none, 0, rfl, OwnF.nil w' w.heap.size, hb⟩

theorem BoxN.threeF {w : World} {b : Nat} {x y z : Value} {T : TypeId} (h : BoxN w b #[x, y, z] T) : w.cell? ⟨b, 0, none⟩ = some x ∧ w.cell? ⟨b, 1, none⟩ = some y ∧ w.cell? ⟨b, 2, none⟩ = some z ∧ w.frozen? ⟨b, 0, none⟩ = false ∧ w.frozen? ⟨b, 1, none⟩ = false ∧ w.frozen? ⟨b, 2, none⟩ = false :=
  ⟨h.cell 0, h.cell 1, h.cell 2, h.free 0, h.free 1, h.free 2⟩
theorem below_set3 {B b : Nat} {w W : World} (h : Below B w W) (hb : B ≤ b) (x y z : Value) : Below B w (((W.setCell ⟨b, 0, none⟩ x).setCell ⟨b, 1, none⟩ y).setCell ⟨b, 2, none⟩ z) :=
  ((h.setCell hb _).setCell hb _).setCell hb _
theorem own_put3 {W : World} {B b : Nat} {v : Value} {bs : List Nat} (h : OwnF W B v bs) (hb : some b ≠ v.ownBlock) (x y z : Value) : OwnF (((W.setCell ⟨b, 0, none⟩ x).setCell ⟨b, 1, none⟩ y).setCell ⟨b, 2, none⟩ z) B v bs := by
  have hn : v.ownBlock = none ∨ v.ownBlock ≠ some b := .inr fun e => hb e.symm
  exact ((h.grown (grown_setCell _ _ _) hn).grown (grown_setCell _ _ _) hn).grown (grown_setCell _ _ _) hn

theorem PRes.yes {w wf : World} {B : Nat} {a b : Int} {s : Option Addr} {c n : Nat} {bs : List Nat} {x y z : Value} (hn : bs.length = n) (hb : Below w.heap.size w wf) (ho : OwnF wf B (.slice s n c) bs) (hB : w.heap.size < B) :
    PRes ⟨a, b, bs, true⟩ w (.returned (.tuple #[.agg #[.int .i64 a, .int .i64 b, .slice s n c], .bool true])) (((wf.setCell ⟨w.heap.size, 0, none⟩ x).setCell ⟨w.heap.size, 1, none⟩ y).setCell ⟨w.heap.size, 2, none⟩ z) := by
  subst hn
  exact ⟨s, c, rfl, (own_put3 (ho.mono (Nat.le_of_lt hB)) (fun e => by have := (ho.lt e.symm).1; omega) _ _ _), below_set3 hb (Nat.le_refl _) _ _ _⟩
set_option maxHeartbeats 2000000 in
theorem s08Picture_any (w : World) (s : ByteArray) (hs : s.size ≤ 2000000) :
    Calls Tryd.prog 21 #[.string s] w (PRes (picT s.data.toList) w) := by
  obtain ⟨W0, hW0⟩ : ∃ W0, W0 = w.alloc (.cells #[.int .i64 0, .int .i64 0, .slice none 0 0] 24) := ⟨_, rfl⟩
  have hb0 : Below w.heap.size w W0 := by rw [hW0]; exact (Below.refl _ _).alloc (Nat.le_refl _) _
  have BZ : BoxN W0 w.heap.size #[.int .i64 0, .int .i64 0, .slice none 0 0] 24 := by rw [hW0]; exact BoxN.last w _ _
  have KR := s08Read_any W0 s 2 (by omega) hs
  rw [show ((2 : Nat) : Int) = 2 from rfl] at KR
  obtain ⟨t, ht⟩ : ∃ t, t = picT s.data.toList := ⟨_, rfl⟩
  rw [← ht]
  unfold picT at ht
  obtain ⟨o, ho⟩ : ∃ o, o = rdS 2 s.data.toList := ⟨_, rfl⟩
  have hlen : ∀ zs bs, o = some (zs, bs) → zs.length = 2 := fun zs bs h => rd_len (ho ▸ h)
  rw [← ho] at KR ht
  have KR := Lib.hid KR
  have HW0 := Lib.hid hW0
  have HB := Lib.hid (And.intro hb0 BZ)
  have HT := Lib.hid ht
  clear hb0 BZ hW0 ho ht hs
  cases o with
  | none =>
    have htt : t = noPi := HT.out
    subst htt
    clear hlen HT
    go_enter Tryd.func21, Tryd.ntmps21
    go_wp2_with fail
    rw [← HW0.out]
    refine KR.out.mono ?_
    rintro e w1 ⟨va, vb, rfl, -, hb1⟩
    have hF := HB.out.1.trans (hb1.mono HB.out.1.size)
    have bx := HB.out.2.below hb1
    obtain ⟨d0, d1, d2, e0, e1, e2⟩ := bx.threeF
    have hlt3 := bx.lt
    go_wp2_with fail
    refine bodyPost_ret (v := .tuple #[.agg #[.int .i64 0, .int .i64 0, .slice none 0 0], .bool false]) (by simp [results, Tryd.results21, go_sem, d0, d1, d2, hlt3]) rfl ?_
    exact PRes.no (below_set3 hF (Nat.le_refl _) _ _ _)
  | some zb =>
    obtain ⟨zs, bs⟩ := zb
    obtain ⟨a, b, rfl⟩ : ∃ a b, zs = [a, b] := by
      have h2 := hlen zs bs rfl
      match zs, h2 with
      | [a, b], _ => exact ⟨a, b, rfl⟩
    have htt : t = if vPic a b bs.length = true then ⟨a, b, bs, true⟩ else noPi := HT.out
    have HT := Lib.hid htt
    clear hlen htt
    obtain ⟨n, hn⟩ : ∃ n, bs.length = n := ⟨_, rfl⟩
    have HN := Lib.hid hn
    clear hn
    go_enter Tryd.func21, Tryd.ntmps21
    go_wp2_with fail
    rw [← HW0.out]
    refine KR.out.mono ?_
    rintro e w1 ⟨va, vb, rfl, hown, hb1⟩
    obtain ⟨oz, of⟩ := hown _ _ rfl
    obtain ⟨g, cz, rfl, hgl⟩ : ∃ g cz, va = .slice (some ⟨g, 0, none⟩) 2 cz ∧ g < w1.heap.size := by
      rcases oz.2 with ⟨_, q⟩ | ⟨g, cap, cur, e, r⟩
      · simp at q
      · subst e; exact ⟨g, cap, rfl, (oz.lt (k := g) rfl).2⟩
    obtain ⟨sf, cf, rfl, hn63⟩ : ∃ s c, vb = .slice s n c ∧ n ≤ 9223372036854775807 := by
      rcases of.form with ⟨q, q2⟩ | ⟨g, cap, e, hle⟩
      · exact ⟨none, 0, by rw [q, ← HN.out, q2]; rfl, by rw [← HN.out, q2]; simp⟩
      · exact ⟨_, cap, by rw [e, HN.out], by rw [← HN.out]; unfold maxLen at hle; omega⟩
    have HN63 := Lib.hid hn63
    clear hn63
    have z0 : w1.cell? ⟨g, 0, none⟩ = some (.int .i64 a) := oz.cellAt 0 (by simp)
    have z1 : w1.cell? ⟨g, 1, none⟩ = some (.int .i64 b) := oz.cellAt 1 (by simp)
    have HF := Lib.hid (And.intro (HB.out.1.trans (hb1.mono HB.out.1.size)) (And.intro (HB.out.2.below hb1) of))
    have hs1 := hb1.size
    clear hown hb1 oz of
    have SV := Lib.hid (fun W (hW : Below w1.heap.size w1 W) => (show (W.cell? ⟨g, 0, none⟩ = some (.int .i64 a) ∧ W.cell? ⟨g, 1, none⟩ = some (.int .i64 b)) from ⟨(hW.cell (p := ⟨g, 0, none⟩) hgl).trans z0, (hW.cell (p := ⟨g, 1, none⟩) hgl).trans z1⟩))
    clear z0 z1
    go_upto_region 5 with fail
    have hA1 : Below w1.heap.size w1 w1.drew := below_drewN (Below.refl _ _) 1
    have hA2 := hA1.alloc hA1.size (.cells #[.int .i64 0, .int .i64 0, .slice none 0 0] 24)
    go_region_held3 (fun W => W.cell? ⟨g, 0, none⟩ = some (.int .i64 a) ∧ W.cell? ⟨g, 1, none⟩ = some (.int .i64 b))
      (first | exact SV.out _ hA1 | exact SV.out _ hA2 | exact SV.out _ (below_drewN (belowA (Below.refl _ _) _) 1) | exact SV.out _ (belowA (Below.refl _ _) _) | exact SV.out _ (belowA hA1 _) | go_keep)
      (fail)
    obtain ⟨w5, hw5⟩ : ∃ W, W = (w1.alloc (.cells #[.int .i64 a, .int .i64 b, .slice sf n cf] 24)).drew := ⟨_, rfl⟩
    have hb5 : Below w1.heap.size w1 w5 := by rw [hw5]; exact below_drewN (belowA (Below.refl _ _) _) 1
    have bx5 : BoxN w5 w1.heap.size #[.int .i64 a, .int .i64 b, .slice sf n cf] 24 := by rw [hw5]; exact (BoxN.last w1 _ _).drewN 1
    rw [← hw5]
    have H5 := Lib.hid (And.intro (HF.out.1.trans (hb5.mono HF.out.1.size)) (And.intro (HF.out.2.1.below hb5) (And.intro (HF.out.2.2.below hb5) bx5)))
    have KI := Lib.hid (l02Is_gen w5 w1.heap.size 0 a b sf n cf HN63.out (bx5.cell 0) (bx5.cell 1) (bx5.cell 2))
    clear hw5 hb5 bx5 hA1 hA2
    go_wp2_with fail
    refine KI.out.mono ?_
    rintro e w6 ⟨rfl, m, rfl⟩
    obtain ⟨w6, hw6⟩ : ∃ W, W = w5.drewN m := ⟨_, rfl⟩
    have hb6 : Below w5.heap.size w5 w6 := by rw [hw6]; exact below_drewN (Below.refl _ _) m
    rw [← hw6]
    have H6 := Lib.hid (And.intro (H5.out.1.trans (hb6.mono H5.out.1.size)) (And.intro (H5.out.2.1.below hb6) (And.intro (H5.out.2.2.1.below hb6) (H5.out.2.2.2.below hb6))))
    obtain ⟨d0, d1, d2, e0, e1, e2⟩ := H6.out.2.1.threeF
    obtain ⟨p0, p1, p2, _, _, _⟩ := H6.out.2.2.2.threeF
    have hlt3 := H6.out.2.1.lt
    have hlt4 := H6.out.2.2.2.lt
    have hne : w1.heap.size ≠ w.heap.size := by have := HB.out.2.lt; omega
    clear hw6 hb6
    cases hok : vPic a b n
    · have htt : t = noPi := by rw [HT.out, HN.out, hok]; rfl
      subst htt
      go_wp2_with fail
      refine bodyPost_ret (v := .tuple #[.agg #[.int .i64 0, .int .i64 0, .slice none 0 0], .bool false]) (by simp [results, Tryd.results21, go_sem, d0, d1, d2, hlt3]) rfl ?_
      exact PRes.no (below_set3 H6.out.1 (Nat.le_refl _) _ _ _)
    · have htt : t = ⟨a, b, bs, true⟩ := by rw [HT.out, HN.out, hok]; rfl
      subst htt
      go_wp2_with fail
      refine bodyPost_ret (v := .tuple #[.agg #[.int .i64 a, .int .i64 b, .slice sf n cf], .bool true]) (by simp [results, Tryd.results21, go_sem, d0, d1, d2, hlt3]) rfl ?_
      exact PRes.yes HN.out H6.out.1 H6.out.2.2.1 HB.out.2.lt

set_option maxHeartbeats 2000000 in
theorem sReadPicture_any (w : World) (s : ByteArray) (hs : s.size ≤ 2000000) :
    Calls Tryd.prog 6 #[.string s] w (PRes (picT s.data.toList) w) := by
  obtain ⟨W0, hW0⟩ : ∃ W0, W0 = w.alloc (.cells #[.int .i64 0, .int .i64 0, .slice none 0 0] 24) := ⟨_, rfl⟩
  have hb0 : Below w.heap.size w W0 := by rw [hW0]; exact (Below.refl _ _).alloc (Nat.le_refl _) _
  have BZ : BoxN W0 w.heap.size #[.int .i64 0, .int .i64 0, .slice none 0 0] 24 := by rw [hW0]; exact BoxN.last w _ _
  have KR := Lib.hid (s08Picture_any W0 s hs)
  obtain ⟨t, ht⟩ : ∃ t, t = picT s.data.toList := ⟨_, rfl⟩
  rw [← ht] at KR ⊢
  have HW0 := Lib.hid hW0
  have HB := Lib.hid (And.intro hb0 BZ)
  clear hb0 BZ hW0 ht hs
  go_enter Tryd.func6, Tryd.ntmps6
  go_wp2_with fail
  rw [← HW0.out]
  refine KR.out.mono ?_
  rintro e w1 ⟨sf, cf, rfl, ho, hb1⟩
  have bx := HB.out.2.below hb1
  obtain ⟨d0, d1, d2, e0, e1, e2⟩ := bx.threeF
  have hlt3 := bx.lt
  have H1 := Lib.hid (And.intro (HB.out.1.trans (hb1.mono HB.out.1.size)) ho)
  clear hb1 ho bx
  obtain ⟨n, hn⟩ : ∃ n, t.L.length = n := ⟨_, rfl⟩
  have HN := Lib.hid hn
  rw [hn]
  clear hn
  go_wp2_with fail
  refine bodyPost_ret (v := .tuple #[.agg #[.int .i64 t.a, .int .i64 t.b, .slice sf n cf], .bool t.ok]) (by simp [results, Tryd.results6, go_sem, d0, d1, d2, hlt3]) rfl ?_
  have ho := H1.out.2
  rw [HN.out] at ho
  refine ⟨sf, cf, by rw [HN.out], ?_, below_set3 H1.out.1 (Nat.le_refl _) _ _ _⟩
  rw [HN.out]
  have hlt0 := HB.out.2.lt
  exact own_put3 (ho.mono (Nat.le_of_lt hlt0)) (fun e => by have := (ho.lt e.symm).1; omega) _ _ _

end Go.Proofs.YtcppoadeelnphaaDoor
