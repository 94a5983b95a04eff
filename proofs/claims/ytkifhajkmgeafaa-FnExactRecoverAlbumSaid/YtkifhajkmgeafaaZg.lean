/- ValidAlbum. -/
import Derived.Test.YtkifhajkmgeafaaZe
import Derived.Test.YtkifhajkmgeafaaPic
namespace Go.Proofs.Ytkifhajkmgeafaa
open Go.RowKit
set_option maxRecDepth 100000
set_option linter.unusedVariables false
set_option linter.unusedSimpArgs false

theorem vAlb1_any (w : World) (x : PicX) (hok : x.p.ok) : Calls Try.prog 38 #[.agg #[.int .i64 (x.p.wd : Int), .int .i64 (x.p.hi : Int), x.sl]] w fun e w' => e = .returned (.bool false) ∧ Below w.heap.size w w' := by
  obtain ⟨d1, d2, d3, d4, d5, d6, d7⟩ := hok.dims
  have KV := Lib.hid (fun W => validPicture_any (x.p.wd : Int) (x.p.hi : Int) (some ⟨x.q, 0, none⟩) x.p.bs.length x.c (by omega) W)
  rw [hok.1] at KV
  unfold PicX.sl
  generalize x.p.wd = wd at *
  generalize x.p.hi = hi at *
  generalize x.p.bs.length = n at *
  have hb : Below w.heap.size w (w.alloc (.cells #[.int .i64 wd, .int .i64 hi, .slice (some ⟨x.q, 0, none⟩) n x.c] 41)) := (Below.refl _ _).alloc (Nat.le_refl _) _
  have HB := Lib.hid hb
  clear hb hok d1 d2 d3 d4 d5 d6 d7
  go_enter Try.func38, Try.ntmps38
  go_wp2_with fail
  refine (KV.out _).mono ?_
  rintro e w' ⟨rfl, hb2⟩
  have hb3 := HB.out.trans (hb2.mono HB.out.size)
  have HB3 := Lib.hid hb3
  clear hb2 hb3
  go_wp2
  go_ret
  exact ⟨rfl, HB3.out⟩

theorem vIndex_any (w : World) (B : Nat) (v : Value) (xs : List PicX) (h : OwnA w B v xs) (hn : xs.length ≤ 100) :
    Calls Try.prog 66 #[v, .func (.func 38) #[] #[]] w fun e w' => e = .returned (.int .i64 (-1)) ∧ Below w.heap.size w w' := by
  obtain ⟨sa, sc, rfl, hc1, hc2⟩ := h.form
  have HO := Lib.hid h
  obtain ⟨k, hk⟩ : ∃ k, xs.length = k := ⟨_, rfl⟩
  rw [hk] at hc1 hn HO ⊢
  have HK := Lib.hid hk
  clear h hk
  go_enter Try.func66, Try.ntmps66
  go_wp2_with fail
  go_loopw [8] (fun v8 wr => ∃ i : Nat, v8 = .int .i64 i ∧ i ≤ k ∧ Below w.heap.size w wr) (fun v8 _ => k - (intOf v8).toNat)
  case atStart => exact ⟨0, rfl, Nat.zero_le _, Below.refl _ _⟩
  case round =>
    obtain ⟨i, rfl, hi, hb⟩ := hrel
    by_cases hlt : i < k
    · obtain ⟨g, x, hx, -, rfl, hgl, p0, p1, p2⟩ := (HO.out.below hb).atk HK.out i hlt
      have hltI : (i : Int) < (k : Int) := by omega
      have KA := Lib.hid (fun W => vAlb1_any W x (HO.out.pic x hx).2)
      unfold PicX.sl at p2 KA
      have HB := Lib.hid hb
      generalize x.p.wd = wd at *
      generalize x.p.hi = hi_ at *
      generalize x.p.bs.length = n at *
      clear hb hx
      go_wp2_with fail
      refine (KA.out _).mono ?_
      rintro e w2 ⟨rfl, hb2⟩
      have HB2 := Lib.hid (HB.out.trans (hb2.mono HB.out.size))
      clear hb2 p0 p1 p2
      go_wp2
      go_roundw
      case rel => exact ⟨i + 1, by go_num, by omega, HB2.out⟩
      case measure => simp [intOf]; omega
    · obtain rfl : k = i := by omega
      go_wp2
      go_ret
      exact ⟨rfl, hb⟩
theorem vContains_any (w : World) (B : Nat) (v : Value) (xs : List PicX) (h : OwnA w B v xs) (hn : xs.length ≤ 100) :
    Calls Try.prog 37 #[v, .func (.func 38) #[] #[]] w fun e w' => e = .returned (.bool false) ∧ Below w.heap.size w w' := by
  have K := Lib.hid (vIndex_any w B v xs h hn)
  clear h
  go_enter Try.func37, Try.ntmps37
  go_wp2_with fail
  refine K.out.mono ?_
  rintro e w2 ⟨rfl, hb2⟩
  go_wp2
  go_ret
  exact ⟨rfl, hb2⟩
/-- An album of one's own is valid if it is not too long. -/
theorem validAlbum_any (w : World) (B : Nat) (v : Value) (xs : List PicX) (h : OwnA w B v xs) (hn : xs.length ≤ 100) :
    Calls Try.prog 12 #[.agg #[v]] w fun e w' => e = .returned (.bool (decide (xs.length ≤ 8))) ∧ Below w.heap.size w w' := by
  obtain ⟨W0, hW0⟩ : ∃ W, W = w.alloc (.cells #[v] 26) := ⟨_, rfl⟩
  have hb0 : Below w.heap.size w W0 := by rw [hW0]; exact (Below.refl _ _).alloc (Nat.le_refl _) _
  have h0 := h.below hb0
  have K := Lib.hid (vContains_any W0 B v xs h0 hn)
  have hR : BoxN W0 w.heap.size #[v] 26 := by rw [hW0]; exact BoxN.last _ _ _
  have r0 : W0.cell? ⟨w.heap.size, 0, none⟩ = some v := hR.cell 0
  obtain ⟨sa, sc, rfl, hc1, hc2⟩ := h.form
  have HB := Lib.hid hb0
  obtain ⟨k, hk⟩ : ∃ k, xs.length = k := ⟨_, rfl⟩
  rw [hk] at K r0 hW0 hc1 hn ⊢
  rw [hW0] at r0
  have HW := Lib.hid hW0
  clear h h0 hb0 hR hk hW0
  by_cases h8 : k ≤ 8
  · rw [decide_eq_true h8]
    have h8I : (k : Int) ≤ 8 := by omega
    go_enter Try.func12, Try.ntmps12
    go_wp2_with fail
    rw [← HW.out]
    refine K.out.mono ?_
    rintro e w2 ⟨rfl, hb2⟩
    have HB2 := Lib.hid (HB.out.trans (hb2.mono HB.out.size))
    clear hb2 r0
    go_wp2
    go_ret
    exact ⟨rfl, HB2.out⟩
  · rw [decide_eq_false h8]
    have h8I : ¬ (k : Int) ≤ 8 := by omega
    have h8J : decide ((k : Int) ≤ 8) = false := decide_eq_false h8I
    go_enter Try.func12, Try.ntmps12
    go_wp2_with fail
    rw [← HW.out]
    go_ret
    exact ⟨rfl, HB.out⟩

end Go.Proofs.Ytkifhajkmgeafaa
