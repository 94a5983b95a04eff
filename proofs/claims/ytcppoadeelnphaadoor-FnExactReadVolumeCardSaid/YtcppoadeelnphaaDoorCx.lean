/- Volumes that are read from texts: the reference's and the program's. -/
import Derived.Test.YtcppoadeelnphaaDoorCw
import Derived.Test.YtcppoadeelnphaaDoorVg
import Derived.Test.YtcppoadeelnphaaDoorAv
import Derived.Test.YtcppoadeelnphaaDoorVk
namespace Go.Proofs.YtcppoadeelnphaaDoor
open Go.RowKit Ieee
set_option maxRecDepth 100000
set_option linter.unusedVariables false
set_option linter.unusedSimpArgs false

/-- Three sizes and numbers, or nothing. -/
structure VuT where
  a : Int
  b : Int
  d : Int
  L : List Nat
  ok : Bool
def noVu : VuT := ⟨0, 0, 0, [], false⟩
/-- The volume that a text tells. -/
def vuT (t : List UInt8) : VuT := match rdS 3 t with
  | some ([a, b, d], bs) => if vVol a b d bs.length = true then ⟨a, b, d, bs, true⟩ else noVu
  | _ => noVu
theorem vuT_len (t : List UInt8) : (vuT t).L.length ≤ 256 := by
  unfold vuT
  split
  · rename_i a b d bs h
    split
    · exact rd_num h
    · simp [noVu]
  · simp [noVu]
/-- What a call that reads a volume returns. -/
def VuRes (t : VuT) (w : World) (e : Ending) (w' : World) : Prop := ∃ s c, e = .returned (.tuple #[.agg #[.int .i64 t.a, .int .i64 t.b, .int .i64 t.d, .slice s t.L.length c], .bool t.ok]) ∧ OwnF w' w.heap.size (.slice s t.L.length c) t.L ∧ Below w.heap.size w w'
theorem VuRes.no {w w' : World} (hb : Below w.heap.size w w') : VuRes noVu w (.returned (.tuple #[.agg #[.int .i64 0, .int .i64 0, .int .i64 0, .slice none 0 0], .bool false])) w' :=
  ⟨none, 0, rfl, OwnF.nil w' w.heap.size, hb⟩
theorem below_setU {B b : Nat} {w W : World} (h : Below B w W) (hb : B ≤ b) (x y z u : Value) : Below B w ((((W.setCell ⟨b, 0, none⟩ x).setCell ⟨b, 1, none⟩ y).setCell ⟨b, 2, none⟩ z).setCell ⟨b, 3, none⟩ u) :=
  (((h.setCell hb _).setCell hb _).setCell hb _).setCell hb _
theorem own_putU {W : World} {B b : Nat} {v : Value} {bs : List Nat} (h : OwnF W B v bs) (hb : some b ≠ v.ownBlock) (x y z u : Value) : OwnF ((((W.setCell ⟨b, 0, none⟩ x).setCell ⟨b, 1, none⟩ y).setCell ⟨b, 2, none⟩ z).setCell ⟨b, 3, none⟩ u) B v bs := by
  have hn : v.ownBlock = none ∨ v.ownBlock ≠ some b := .inr fun e => hb e.symm
  exact (((h.grown (grown_setCell _ _ _) hn).grown (grown_setCell _ _ _) hn).grown (grown_setCell _ _ _) hn).grown (grown_setCell _ _ _) hn
theorem VuRes.yes {w wf : World} {B : Nat} {a b d : Int} {s : Option Addr} {c n : Nat} {bs : List Nat} {x y z u : Value} (hn : bs.length = n) (hb : Below w.heap.size w wf) (ho : OwnF wf B (.slice s n c) bs) (hB : w.heap.size < B) :
    VuRes ⟨a, b, d, bs, true⟩ w (.returned (.tuple #[.agg #[.int .i64 a, .int .i64 b, .int .i64 d, .slice s n c], .bool true])) ((((wf.setCell ⟨w.heap.size, 0, none⟩ x).setCell ⟨w.heap.size, 1, none⟩ y).setCell ⟨w.heap.size, 2, none⟩ z).setCell ⟨w.heap.size, 3, none⟩ u) := by
  subst hn
  exact ⟨s, c, rfl, (own_putU (ho.mono (Nat.le_of_lt hB)) (fun e => by have := (ho.lt e.symm).1; omega) _ _ _ _), below_setU hb (Nat.le_refl _) _ _ _ _⟩
theorem VuRes.drew {t : VuT} {w W : World} {e : Ending} (h : VuRes t w e W) : VuRes t w e W.drew := by
  obtain ⟨s, c, he, ho, hb⟩ := h
  exact ⟨s, c, he, ho.drewN 1, below_drewN hb 1⟩

set_option maxHeartbeats 2000000 in
theorem sReadVolume_any (w : World) (s : ByteArray) (hs : s.size ≤ 2000000) :
    Calls Tryd.prog 16 #[.string s] w (VuRes (vuT s.data.toList) w) := by
  obtain ⟨W0, hW0⟩ : ∃ W0, W0 = w.alloc (.cells #[.int .i64 0, .int .i64 0, .int .i64 0, .slice none 0 0] 37) := ⟨_, rfl⟩
  have hb0 : Below w.heap.size w W0 := by rw [hW0]; exact (Below.refl _ _).alloc (Nat.le_refl _) _
  have BZ : BoxN W0 w.heap.size #[.int .i64 0, .int .i64 0, .int .i64 0, .slice none 0 0] 37 := by rw [hW0]; exact BoxN.last w _ _
  have KR := s08Read_any W0 s 3 (by omega) hs
  rw [show ((3 : Nat) : Int) = 3 from rfl] at KR
  obtain ⟨t, ht⟩ : ∃ t, t = vuT s.data.toList := ⟨_, rfl⟩
  rw [← ht]
  unfold vuT at ht
  obtain ⟨o, ho⟩ : ∃ o, o = rdS 3 s.data.toList := ⟨_, rfl⟩
  have hlen : ∀ zs bs, o = some (zs, bs) → zs.length = 3 := fun zs bs h => rd_len (ho ▸ h)
  rw [← ho] at KR ht
  have KR := Lib.hid KR
  have HW0 := Lib.hid hW0
  have HB := Lib.hid (And.intro hb0 BZ)
  have HT := Lib.hid ht
  clear hb0 BZ hW0 ho ht hs
  cases o with
  | none =>
    have htt : t = noVu := HT.out
    subst htt
    clear hlen HT
    go_enter Tryd.func16, Tryd.ntmps16
    go_wp2_with fail
    rw [← HW0.out]
    refine KR.out.mono ?_
    rintro e w1 ⟨va, vb, rfl, -, hb1⟩
    have hF := HB.out.1.trans (hb1.mono HB.out.1.size)
    have bx := HB.out.2.below hb1
    obtain ⟨d0, d1, d2, d3, e0, e1, e2, e3⟩ := bx.four
    have hlt3 := bx.lt
    go_wp2_with fail
    refine bodyPost_ret (v := .tuple #[.agg #[.int .i64 0, .int .i64 0, .int .i64 0, .slice none 0 0], .bool false]) (by simp [results, Tryd.results16, go_sem, d0, d1, d2, d3, hlt3]) rfl ?_
    exact VuRes.no (below_setU hF (Nat.le_refl _) _ _ _ _)
  | some zb =>
    obtain ⟨zs, bs⟩ := zb
    obtain ⟨a, b, d, rfl⟩ : ∃ a b d, zs = [a, b, d] := by
      have h2 := hlen zs bs rfl
      match zs, h2 with
      | [a, b, d], _ => exact ⟨a, b, d, rfl⟩
    have htt : t = if vVol a b d bs.length = true then ⟨a, b, d, bs, true⟩ else noVu := HT.out
    have HT := Lib.hid htt
    clear hlen htt
    obtain ⟨n, hn⟩ : ∃ n, bs.length = n := ⟨_, rfl⟩
    have HN := Lib.hid hn
    clear hn
    go_enter Tryd.func16, Tryd.ntmps16
    go_wp2_with fail
    rw [← HW0.out]
    refine KR.out.mono ?_
    rintro e w1 ⟨va, vb, rfl, hown, hb1⟩
    obtain ⟨oz, of⟩ := hown _ _ rfl
    obtain ⟨g, cz, rfl, hgl⟩ : ∃ g cz, va = .slice (some ⟨g, 0, none⟩) 3 cz ∧ g < w1.heap.size := by
      rcases oz.2 with ⟨_, q⟩ | ⟨g, cap, cur, e, r⟩
      · simp at q
      · subst e; exact ⟨g, cap, rfl, (oz.lt (k := g) rfl).2⟩
    obtain ⟨sf, cf, rfl, hn63⟩ : ∃ s c, vb = .slice s n c ∧ n ≤ 9223372036854775807 := by
      rcases of.form with ⟨q, q2⟩ | ⟨g, cap, e, hle⟩
      · exact ⟨none, 0, by rw [q, ← HN.out, q2]; rfl, by rw [← HN.out, q2]; simp⟩
      · exact ⟨_, cap, by rw [e, HN.out], by rw [← HN.out]; unfold maxLen at hle; omega⟩
    have HN63 := Lib.hid hn63
    clear hn63
    have z0 : w1.cell? ⟨g, 0, none⟩ = some (.int .i64 a) := oz.cellAt 0 (by simp)
    have z1 : w1.cell? ⟨g, 1, none⟩ = some (.int .i64 b) := oz.cellAt 1 (by simp)
    have z2 : w1.cell? ⟨g, 2, none⟩ = some (.int .i64 d) := oz.cellAt 2 (by simp)
    have HF := Lib.hid (And.intro (HB.out.1.trans (hb1.mono HB.out.1.size)) (And.intro (HB.out.2.below hb1) of))
    have hs1 := hb1.size
    clear hown hb1 oz of
    have SV := Lib.hid (fun W (hW : Below w1.heap.size w1 W) => (show (W.cell? ⟨g, 0, none⟩ = some (.int .i64 a) ∧ W.cell? ⟨g, 1, none⟩ = some (.int .i64 b) ∧ W.cell? ⟨g, 2, none⟩ = some (.int .i64 d)) from ⟨(hW.cell (p := ⟨g, 0, none⟩) hgl).trans z0, (hW.cell (p := ⟨g, 1, none⟩) hgl).trans z1, (hW.cell (p := ⟨g, 2, none⟩) hgl).trans z2⟩))
    clear z0 z1 z2
    go_upto_region 5 with fail
    have hA1 : Below w1.heap.size w1 w1.drew := below_drewN (Below.refl _ _) 1
    have hA2 := hA1.alloc hA1.size (.cells #[.int .i64 0, .int .i64 0, .int .i64 0, .slice none 0 0] 37)
    go_region_held3 (fun W => W.cell? ⟨g, 0, none⟩ = some (.int .i64 a) ∧ W.cell? ⟨g, 1, none⟩ = some (.int .i64 b) ∧ W.cell? ⟨g, 2, none⟩ = some (.int .i64 d))
      (first | exact SV.out _ hA1 | exact SV.out _ hA2 | exact SV.out _ (below_drewN (belowA (Below.refl _ _) _) 1) | exact SV.out _ (belowA (Below.refl _ _) _) | exact SV.out _ (belowA hA1 _) | go_keep)
      (fail)
    obtain ⟨w5, hw5⟩ : ∃ W, W = (w1.alloc (.cells #[.int .i64 a, .int .i64 b, .int .i64 d, .slice sf n cf] 37)).drew := ⟨_, rfl⟩
    have hb5 : Below w1.heap.size w1 w5 := by rw [hw5]; exact below_drewN (belowA (Below.refl _ _) _) 1
    have bx5 : BoxN w5 w1.heap.size #[.int .i64 a, .int .i64 b, .int .i64 d, .slice sf n cf] 37 := by rw [hw5]; exact (BoxN.last w1 _ _).drewN 1
    rw [← hw5]
    have H5 := Lib.hid (And.intro (HF.out.1.trans (hb5.mono HF.out.1.size)) (And.intro (HF.out.2.1.below hb5) (And.intro (HF.out.2.2.below hb5) bx5)))
    have KI := Lib.hid (l03Is_gen w5 w1.heap.size a b d sf n cf HN63.out (bx5.cell 0) (bx5.cell 1) (bx5.cell 2) (bx5.cell 3))
    clear hw5 hb5 bx5 hA1 hA2
    go_wp2_with fail
    refine KI.out.mono ?_
    rintro e w6 ⟨rfl, m, rfl⟩
    obtain ⟨w6, hw6⟩ : ∃ W, W = w5.drewN m := ⟨_, rfl⟩
    have hb6 : Below w5.heap.size w5 w6 := by rw [hw6]; exact below_drewN (Below.refl _ _) m
    rw [← hw6]
    have H6 := Lib.hid (And.intro (H5.out.1.trans (hb6.mono H5.out.1.size)) (And.intro (H5.out.2.1.below hb6) (And.intro (H5.out.2.2.1.below hb6) (H5.out.2.2.2.below hb6))))
    obtain ⟨d0, d1, d2, d3, e0, e1, e2, e3⟩ := H6.out.2.1.four
    obtain ⟨p0, p1, p2, p3, _, _, _, _⟩ := H6.out.2.2.2.four
    have hlt3 := H6.out.2.1.lt
    have hlt4 := H6.out.2.2.2.lt
    have hne : w1.heap.size ≠ w.heap.size := by have := HB.out.2.lt; omega
    clear hw6 hb6
    cases hok : vVol a b d n
    · have htt : t = noVu := by rw [HT.out, HN.out, hok]; rfl
      subst htt
      go_wp2_with fail
      refine bodyPost_ret (v := .tuple #[.agg #[.int .i64 0, .int .i64 0, .int .i64 0, .slice none 0 0], .bool false]) (by simp [results, Tryd.results16, go_sem, d0, d1, d2, d3, hlt3]) rfl ?_
      exact VuRes.no (below_setU H6.out.1 (Nat.le_refl _) _ _ _ _)
    · have htt : t = ⟨a, b, d, bs, true⟩ := by rw [HT.out, HN.out, hok]; rfl
      subst htt
      go_wp2_with fail
      refine bodyPost_ret (v := .tuple #[.agg #[.int .i64 a, .int .i64 b, .int .i64 d, .slice sf n cf], .bool true]) (by simp [results, Tryd.results16, go_sem, d0, d1, d2, d3, hlt3]) rfl ?_
      exact VuRes.yes HN.out H6.out.1 H6.out.2.2.1 HB.out.2.lt

set_option maxHeartbeats 4000000 in
theorem iReadVolume_any (w : World) (s : ByteArray) (m : Int) (hs : s.size ≤ 2000000) (hm : w.cell? ⟨0, 0, none⟩ = some (.int .i64 m)) (het : ErrT w) (htb : TabT w) :
    Calls Tryd.prog 17 #[.string s] w (VuRes (vuT s.data.toList) w) := by
  obtain ⟨W0, hW0⟩ : ∃ W0, W0 = w.alloc (.cells #[.int .i64 0, .int .i64 0, .int .i64 0, .slice none 0 0] 37) := ⟨_, rfl⟩
  have hb0 : Below w.heap.size w W0 := by rw [hW0]; exact (Below.refl _ _).alloc (Nat.le_refl _) _
  have BZ : BoxN W0 w.heap.size #[.int .i64 0, .int .i64 0, .int .i64 0, .slice none 0 0] 37 := by rw [hW0]; exact BoxN.last w _ _
  have KR := readSized_any W0 s 3 m (by omega) hs ((hb0.cell (p := ⟨0, 0, none⟩) (World.block_lt_of_cell? _ _ hm)).trans hm) (het.below hb0) (htb.below hb0)
  rw [show ((3 : Nat) : Int) = 3 from rfl, rd_same] at KR
  obtain ⟨t, ht⟩ : ∃ t, t = vuT s.data.toList := ⟨_, rfl⟩
  rw [← ht]
  unfold vuT at ht
  obtain ⟨o, ho⟩ : ∃ o, o = rdS 3 s.data.toList := ⟨_, rfl⟩
  have hlen : ∀ zs bs, o = some (zs, bs) → zs.length = 3 := fun zs bs h => rd_len (ho ▸ h)
  rw [← ho] at KR ht
  have KR := Lib.hid KR
  have HW0 := Lib.hid hW0
  have HB := Lib.hid (And.intro hb0 BZ)
  have HT := Lib.hid ht
  clear hb0 BZ hW0 ho ht hs hm het htb
  cases o with
  | none =>
    have htt : t = noVu := HT.out
    subst htt
    clear hlen HT
    go_enter Tryd.func17, Tryd.ntmps17
    go_wp2_with fail
    rw [← HW0.out]
    refine KR.out.mono ?_
    rintro e w1 ⟨va, vb, rfl, -, hb1⟩
    have hF := HB.out.1.trans (hb1.mono HB.out.1.size)
    have bx := HB.out.2.below hb1
    obtain ⟨d0, d1, d2, d3, e0, e1, e2, e3⟩ := bx.four
    have hlt3 := bx.lt
    go_wp2_with fail
    go_quiet (fail)
    obtain ⟨d0, d1, d2, d3, e0, e1, e2, e3⟩ := (bx.drewN nq).four
    have hlt3 := (bx.drewN nq).lt
    have hF2 := below_drewN hF nq
    go_wp2_with fail
    refine bodyPost_ret (v := .tuple #[.agg #[.int .i64 0, .int .i64 0, .int .i64 0, .slice none 0 0], .bool false]) (by simp [results, Tryd.results17, go_sem, d0, d1, d2, d3, hlt3]) rfl ?_
    exact VuRes.no (below_setU hF2 (Nat.le_refl _) _ _ _ _)
  | some zb =>
    obtain ⟨zs, bs⟩ := zb
    obtain ⟨a, b, d, rfl⟩ : ∃ a b d, zs = [a, b, d] := by
      have h2 := hlen zs bs rfl
      match zs, h2 with
      | [a, b, d], _ => exact ⟨a, b, d, rfl⟩
    have htt : t = if vVol a b d bs.length = true then ⟨a, b, d, bs, true⟩ else noVu := HT.out
    have HT := Lib.hid htt
    clear hlen htt
    obtain ⟨n, hn⟩ : ∃ n, bs.length = n := ⟨_, rfl⟩
    have HN := Lib.hid hn
    clear hn
    go_enter Tryd.func17, Tryd.ntmps17
    go_wp2_with fail
    rw [← HW0.out]
    refine KR.out.mono ?_
    rintro e w1 ⟨va, vb, rfl, hown, hb1⟩
    obtain ⟨oz, of⟩ := hown _ _ rfl
    obtain ⟨g, cz, rfl, hgl, hgB⟩ : ∃ g cz, va = .slice (some ⟨g, 0, none⟩) 3 cz ∧ g < w1.heap.size ∧ W0.heap.size ≤ g := by
      rcases oz.2 with ⟨_, q⟩ | ⟨g, cap, cur, e, r⟩
      · simp at q
      · subst e; exact ⟨g, cap, rfl, (oz.lt (k := g) rfl).2, (oz.lt (k := g) rfl).1⟩
    obtain ⟨sf, cf, rfl, hn63⟩ : ∃ s c, vb = .slice s n c ∧ n ≤ 9223372036854775807 := by
      rcases of.form with ⟨q, q2⟩ | ⟨g, cap, e, hle⟩
      · exact ⟨none, 0, by rw [q, ← HN.out, q2]; rfl, by rw [← HN.out, q2]; simp⟩
      · exact ⟨_, cap, by rw [e, HN.out], by rw [← HN.out]; unfold maxLen at hle; omega⟩
    have HN63 := Lib.hid hn63
    clear hn63
    have hgne : g ≠ w.heap.size := by have := HB.out.2.lt; omega
    have z0 : w1.cell? ⟨g, 0, none⟩ = some (.int .i64 a) := oz.cellAt 0 (by simp)
    have z1 : w1.cell? ⟨g, 1, none⟩ = some (.int .i64 b) := oz.cellAt 1 (by simp)
    have z2 : w1.cell? ⟨g, 2, none⟩ = some (.int .i64 d) := oz.cellAt 2 (by simp)
    have HF := Lib.hid (And.intro (HB.out.1.trans (hb1.mono HB.out.1.size)) (And.intro (HB.out.2.below hb1) of))
    have hs1 := hb1.size
    have SV := Lib.hid (fun W (hW : Below w1.heap.size w1 W) => (show (W.cell? ⟨g, 0, none⟩ = some (.int .i64 a) ∧ W.cell? ⟨g, 1, none⟩ = some (.int .i64 b) ∧ W.cell? ⟨g, 2, none⟩ = some (.int .i64 d)) from ⟨(hW.cell (p := ⟨g, 0, none⟩) hgl).trans z0, (hW.cell (p := ⟨g, 1, none⟩) hgl).trans z1, (hW.cell (p := ⟨g, 2, none⟩) hgl).trans z2⟩))
    have KV := Lib.hid (fun W => validVolume_any a b d sf n cf HN63.out W)
    clear z0 z1 z2 hown hb1 oz of
    go_wp2_with fail
    have hA1 : Below w1.heap.size w1 w1.drew := below_drewN (Below.refl _ _) 1
    go_region_held3 (fun W => W.cell? ⟨g, 0, none⟩ = some (.int .i64 a) ∧ W.cell? ⟨g, 1, none⟩ = some (.int .i64 b) ∧ W.cell? ⟨g, 2, none⟩ = some (.int .i64 d))
      (first | exact SV.out _ hbS | exact SV.out _ hA1 | exact SV.out _ (below_drewN (Below.refl _ _) _) | go_keep)
      (first
        | (go_at_call 30; (with_reducible refine (KV.out _).mono ?_); rintro e wS ⟨rfl, hbS1⟩; have hbS := hA1.trans (hbS1.mono hA1.size)))
    have hs5 := SV.out _ hbS
    have H5 := Lib.hid (And.intro (HF.out.1.trans (hbS.mono HF.out.1.size)) (And.intro (HF.out.2.1.below hbS) (HF.out.2.2.below hbS)))
    have hgl5 := Nat.lt_of_lt_of_le hgl hbS.size
    obtain ⟨d0, d1, d2, d3, e0, e1, e2, e3⟩ := H5.out.2.1.four
    have hlt3 := H5.out.2.1.lt
    clear hbS1 hbS hA1
    cases hok : vVol a b d n
    · have htt : t = noVu := by rw [HT.out, HN.out, hok]; rfl
      subst htt
      go_wp2_with fail
      refine bodyPost_ret (v := .tuple #[.agg #[.int .i64 0, .int .i64 0, .int .i64 0, .slice none 0 0], .bool false]) (by simp [results, Tryd.results17, go_sem, d0, d1, d2, d3, hlt3]) rfl ?_
      exact VuRes.no (below_setU H5.out.1 (Nat.le_refl _) _ _ _ _)
    · have htt : t = ⟨a, b, d, bs, true⟩ := by rw [HT.out, HN.out, hok]; rfl
      subst htt
      obtain ⟨z0, z1, z2⟩ := hs5
      go_wp2_with fail
      go_region
      go_wp2_with fail
      refine bodyPost_ret (v := .tuple #[.agg #[.int .i64 a, .int .i64 b, .int .i64 d, .slice sf n cf], .bool true]) (by simp [results, Tryd.results17, go_sem, d0, d1, d2, d3, hlt3]) rfl ?_
      exact VuRes.drew (VuRes.yes HN.out H5.out.1 H5.out.2.2 HB.out.2.lt)

end Go.Proofs.YtcppoadeelnphaaDoor
