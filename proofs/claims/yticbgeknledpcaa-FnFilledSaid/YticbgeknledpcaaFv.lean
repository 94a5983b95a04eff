/- impl.FillAll. -/
import Derived.Test.YticbgeknledpcaaFu
namespace Go.Proofs.Yticbgeknledpcaa
open Go.RowKit
set_option maxRecDepth 100000
set_option linter.unusedVariables false
set_option linter.unusedSimpArgs false

/-- How many holes. -/
def holW (bs : List Nat) : Nat → Nat
  | 0 => 0
  | m + 1 => holW bs m + (if le32 0 (bs.getD m 0) = false then 1 else 0)
theorem holW_le (bs : List Nat) : ∀ m, holW bs m ≤ m := by
  intro m
  induction m with
  | zero => simp [holW]
  | succ m ih => unfold holW; split <;> omega
theorem fillN_or {bs : List Nat} {wd hi N : Nat} {L H : Int} (hN : N = wd * hi) (hl : bs.length = wd * hi) (hw0 : 0 < wd) (hb : ∀ b ∈ bs, b = 3212836864 ∨ Bd L H b) (h1 : 0 ≤ L) (h2 : L ≤ H) (h3 : H ≤ 1000) {i : Nat} (hi_ : i < N) :
    (le32 0 (bs.getD i 0) = true ∧ Bd L H (bs.getD i 0) ∧ (fillN bs wd hi N).getD i 0 = bs.getD i 0) ∨
    (le32 0 (bs.getD i 0) = false ∧ bs.getD i 0 = 3212836864 ∧ (besL bs wd hi ((i % wd : Nat) : Int) ((i / wd : Nat) : Int) 4).length = 0 ∧ (fillN bs wd hi N).getD i 0 = 3212836864) ∨
    (le32 0 (bs.getD i 0) = false ∧ bs.getD i 0 = 3212836864 ∧ (besL bs wd hi ((i % wd : Nat) : Int) ((i / wd : Nat) : Int) 4).length ≠ 0 ∧ Bd L H ((fillN bs wd hi N).getD i 0)) := by
  have k := fillW_or hl hb h1 h2 h3 (Nat.mod_lt i hw0) (y := i / wd) (Nat.div_lt_of_lt_mul (by omega))
  rw [Nat.mod_add_div] at k
  rw [fillN_get hi_]
  exact k
theorem hol_fill {bs : List Nat} {wd hi N : Nat} {L H : Int} (hN : N = wd * hi) (hl : bs.length = wd * hi) (hw0 : 0 < wd) (hb : ∀ b ∈ bs, b = 3212836864 ∨ Bd L H b) (h1 : 0 ≤ L) (h2 : L ≤ H) (h3 : H ≤ 1000) : ∀ m, m ≤ N → holW (fillN bs wd hi N) m + cntW bs wd hi m = holW bs m := by
  intro m
  induction m with
  | zero => intro _; rfl
  | succ m ih =>
    intro hm
    have k := ih (by omega)
    have e1 : holW (fillN bs wd hi N) (m + 1) = holW (fillN bs wd hi N) m + (if le32 0 ((fillN bs wd hi N).getD m 0) = false then 1 else 0) := rfl
    have e2 : holW bs (m + 1) = holW bs m + (if le32 0 (bs.getD m 0) = false then 1 else 0) := rfl
    have e3 : cntW bs wd hi (m + 1) = cntW bs wd hi m + (if le32 0 (bs.getD m 0) = false ∧ (besL bs wd hi ((m % wd : Nat) : Int) ((m / wd : Nat) : Int) 4).length ≠ 0 then 1 else 0) := rfl
    rw [e1, e2, e3]
    rcases fillN_or hN hl hw0 hb h1 h2 h3 (show m < N by omega) with ⟨a, b, c⟩ | ⟨a, b, c, d⟩ | ⟨a, b, c, d⟩
    · rw [c, a]; simp; omega
    · rw [d, a, c, neg_hole]; simp; omega
    · rw [if_neg (by rw [bd_noHole d h1 (by omega)]; decide), if_pos ⟨a, c⟩, if_pos a]; omega
theorem cntW_zero {bs : List Nat} {wd hi : Nat} : ∀ m, cntW bs wd hi m = 0 → ∀ i, i < m → ¬ (le32 0 (bs.getD i 0) = false ∧ (besL bs wd hi ((i % wd : Nat) : Int) ((i / wd : Nat) : Int) 4).length ≠ 0) := by
  intro m
  induction m with
  | zero => intro _ i hlt; omega
  | succ m ih =>
    intro h i hlt
    have e3 : cntW bs wd hi (m + 1) = cntW bs wd hi m + (if le32 0 (bs.getD m 0) = false ∧ (besL bs wd hi ((m % wd : Nat) : Int) ((m / wd : Nat) : Int) 4).length ≠ 0 then 1 else 0) := rfl
    rw [e3] at h
    rcases Nat.lt_or_ge i m with k | k
    · exact ih (by omega) i k
    · have : i = m := by omega
      subst this
      intro hh
      rw [if_pos hh] at h
      omega
theorem fillN_id {bs : List Nat} {wd hi N : Nat} {L H : Int} (hN : N = wd * hi) (hl : bs.length = wd * hi) (hw0 : 0 < wd) (hb : ∀ b ∈ bs, b = 3212836864 ∨ Bd L H b) (h1 : 0 ≤ L) (h2 : L ≤ H) (h3 : H ≤ 1000) (h : cntW bs wd hi N = 0) : fillN bs wd hi N = bs := by
  apply List.ext_getElem
  · rw [fillN_len, hl, hN]
  · intro i k1 k2
    have hi_ : i < N := by rw [fillN_len] at k1; exact k1
    have kz := cntW_zero N h i hi_
    have e1 : (fillN bs wd hi N)[i] = (fillN bs wd hi N).getD i 0 := by rw [List.getD_eq_getElem?_getD, List.getElem?_eq_getElem k1]; rfl
    have e2 : bs[i] = bs.getD i 0 := by rw [List.getD_eq_getElem?_getD, List.getElem?_eq_getElem k2]; rfl
    rw [e1, e2]
    rcases fillN_or hN hl hw0 hb h1 h2 h3 hi_ with ⟨a, b, c⟩ | ⟨a, b, c, d⟩ | ⟨a, b, c, d⟩
    · exact c
    · rw [d, b]
    · exact absurd ⟨a, c⟩ kz

def MakesAll (w : World) (wd hi N : Nat) (L H : Int) (bs : List Nat) (e : Ending) (w' : World) : Prop :=
  ∃ (q c r : Nat) (cs : List Nat), e = .returned (.tuple #[.agg #[.int .i64 wd, .int .i64 hi, .slice (some ⟨q, 0, none⟩) N c], .int .i64 r, .bool true]) ∧ WM w' q c N L H cs ∧ (∀ i, i < N → le32 0 (bs.getD i 0) = true → cs.getD i 0 = bs.getD i 0) ∧ cntW cs wd hi N = 0 ∧ (r = 0 ↔ cntW bs wd hi N = 0) ∧ (r = 0 → cs = bs) ∧ r ≤ N ∧ Below w.heap.size w w'

set_option maxHeartbeats 1000000 in
theorem fillAll_q (w : World) (wd hi N q c : Nat) (L H : Int) (bs : List Nat) (hv : vPic wd hi N = true) (h : WM w q c N L H bs) (h1 : 0 ≤ L) (h2 : L ≤ H) (h3 : H ≤ 1000) :
    Calls Try.prog 11 #[.agg #[.int .i64 wd, .int .i64 hi, .slice (some ⟨q, 0, none⟩) N c]] w (MakesAll w wd hi N L H bs) := by
  obtain ⟨e1, d1, d3, d2, d4, e6, e7⟩ := vPic_mul hv
  have hb0 := below_two w (.cells #[.int .i64 wd, .int .i64 hi, .slice (some ⟨q, 0, none⟩) N c] 26) (.cells #[.int .i64 0, .int .i64 0, .slice none 0 0] 26)
  have B1 := box_first w (.int .i64 wd) (.int .i64 hi) (.slice (some ⟨q, 0, none⟩) N c) 26 (.cells #[.int .i64 0, .int .i64 0, .slice none 0 0] 26)
  have B2 := box_second w (.int .i64 0) (.int .i64 0) (.slice none 0 0) 26 (.cells #[.int .i64 wd, .int .i64 hi, .slice (some ⟨q, 0, none⟩) N c] 26)
  have hq := h.lt
  have hPW := h.below hb0
  have KF := Lib.hid (fun W q c cs hW => filled_q W wd hi N q c L H cs hv hW h1 h2 h3)
  have HE1 := Lib.hid e1
  have HL := Lib.hid (show bs.length = wd * hi by rw [h.len]; exact e1)
  have HOK := Lib.hid h.ok
  clear e1 h
  go_enter Try.func11, Try.ntmps11
  go_wp2_with fail
  refine (validMap_any _ _ _ _ _ (by omega) _).mono ?_
  rw [hv]
  rintro e w1 ⟨rfl, hb1⟩
  have hbb := hb0.trans (hb1.mono hb0.size)
  have X1 := B1.below hb1
  have X2 := B2.below hb1
  have Y1 := hPW.below hb1
  clear B1 B2 hPW hb1 hb0 hv
  go_wp2_with fail
  go_loopw [5] (fun v5 wr => ∃ (r q c : Nat) (cs : List Nat), v5 = .int .i64 r ∧ r + holW cs N ≤ N ∧ q ≠ w.heap.size ∧ q ≠ w.heap.size + 1 ∧ Box3 wr w.heap.size (.int .i64 wd) (.int .i64 hi) (.slice (some ⟨q, 0, none⟩) N c) 26 ∧ Box3 wr (w.heap.size + 1) (.int .i64 0) (.int .i64 0) (.slice none 0 0) 26 ∧ WM wr q c N L H cs ∧ Below w.heap.size w wr ∧ ((r = 0 ∧ cs = bs) ∨ (0 < r ∧ cntW bs wd hi N ≠ 0)) ∧ (∀ i, i < N → le32 0 (bs.getD i 0) = true → cs.getD i 0 = bs.getD i 0)) (fun v5 _ => N + 1 - (intOf v5).toNat)
  case atStart => exact ⟨0, q, c, bs, rfl, by have := holW_le bs N; omega, by omega, by omega, X1, X2, Y1, hbb, .inl ⟨rfl, rfl⟩, fun i _ _ => rfl⟩
  case round =>
    clear X1 X2 Y1 hbb hq
    obtain ⟨r, q, c, cs, rfl, hr, hq1, hq2, X1, X2, Y1, hbb, hor, hkeep⟩ := hrel
    obtain ⟨c0, c1, c2, f0, f1, f2⟩ := X1.cells
    have K := KF.out wr q c cs Y1
    have hsz := X2.lt
    have hlc : cs.length = wd * hi := by rw [Y1.len]; exact HE1.out
    have hok := Y1.ok
    have hsum := hol_fill HE1.out hlc d1 hok h1 h2 h3 N (Nat.le_refl _)
    have hid := fillN_id HE1.out hlc d1 hok h1 h2 h3
    have HX1 := Lib.hid X1
    have HX2 := Lib.hid X2
    have HBB := Lib.hid hbb
    have HOR := Lib.hid hor
    have HKEEP := Lib.hid hkeep
    have HSUM := Lib.hid hsum
    have HID := Lib.hid hid
    have HLC := Lib.hid hlc
    have HOKC := Lib.hid hok
    clear X1 X2 Y1 hbb hor hkeep hsum hid hlc hok
    go_wp2_with fail
    refine K.mono ?_
    rintro e w2 ⟨q2, c2', rfl, hm, hqq, hb2⟩
    have X1 := HX1.out.below hb2
    have X2 := HX2.out.below hb2
    have hs2 := hb2.size
    have hl1 : w.heap.size < w2.heap.size := by omega
    have hl2 : w.heap.size + 1 < w2.heap.size := by omega
    obtain ⟨C0, C1, C2, F0, F1, F2⟩ := X1.cells
    obtain ⟨G0, G1, G2, H0, H1, H2⟩ := X2.cells
    have hn1 : w.heap.size ≠ w2.heap.size := by omega
    have HB2 := Lib.hid hb2
    have HM := Lib.hid hm
    have HX12 := Lib.hid X1
    have HX22 := Lib.hid X2
    clear hb2 hm X1 X2 c0 c1 c2 f0 f1 f2 HX1 HX2
    have hq2b : wr.heap.size ≤ q2 := hqq
    by_cases hz : cntW cs wd hi N = 0
    · have hid2 := HID.out hz
      have HID2 := Lib.hid hid2
      have HZ := Lib.hid hz
      rw [hz]
      clear hz hid2
      go_wp2_with fail
      refine bodyPost_ret (v := .tuple #[.agg #[.int .i64 wd, .int .i64 hi, .slice (some ⟨q2, 0, none⟩) N c2'], .int .i64 r, .bool true]) (by simp [results, Try.results11, go_sem, G0, G1, G2, hl2]) rfl ?_
      have hb3 : Below w.heap.size w w2 := HBB.out.trans (HB2.out.mono HBB.out.size)
      have hb4 := ((hb3.setCell (p := ⟨w.heap.size, 0, none⟩) (by simp) (.int .i64 wd)).setCell (p := ⟨w.heap.size, 1, none⟩) (by simp) (.int .i64 hi)).setCell (p := ⟨w.heap.size, 2, none⟩) (by simp) (.slice (some ⟨q2, 0, none⟩) N c2')
      have wm := (((HM.out.set (ob := w.heap.size) (i := 0) (by omega) (.int .i64 wd)).set (ob := w.heap.size) (i := 1) (by omega) (.int .i64 hi)).set (ob := w.heap.size) (i := 2) (by omega) (.slice (some ⟨q2, 0, none⟩) N c2'))
      have hb5 := ((hb4.setCell (p := ⟨w.heap.size + 1, 0, none⟩) (by simp) (.int .i64 wd)).setCell (p := ⟨w.heap.size + 1, 1, none⟩) (by simp) (.int .i64 hi)).setCell (p := ⟨w.heap.size + 1, 2, none⟩) (by simp) (.slice (some ⟨q2, 0, none⟩) N c2')
      have wm2 := (((wm.set (ob := w.heap.size + 1) (i := 0) (by omega) (.int .i64 wd)).set (ob := w.heap.size + 1) (i := 1) (by omega) (.int .i64 hi)).set (ob := w.heap.size + 1) (i := 2) (by omega) (.slice (some ⟨q2, 0, none⟩) N c2'))
      rw [HID2.out] at wm2
      refine ⟨q2, c2', r, cs, rfl, wm2.below (alb1 _ _), HKEEP.out, HZ.out, ?_, ?_, by omega, hb5.trans ((alb1 _ _).mono hb5.size)⟩
      · rcases HOR.out with ⟨k1, k2⟩ | ⟨k1, k2⟩
        · rw [k1, ← k2]; simp [HZ.out]
        · omega
      · intro h0
        rcases HOR.out with ⟨k1, k2⟩ | ⟨k1, k2⟩
        · exact k2
        · omega
    · have hzp : ((cntW cs wd hi N : Nat) : Int) ≠ 0 := by omega
      have HZ := Lib.hid hz
      clear hz
      generalize hcw : cntW cs wd hi N = cw at *
      have hlt := hol_fill HE1.out HLC.out d1 HOKC.out h1 h2 h3
      have HHF := Lib.hid hlt
      have HCW := Lib.hid hcw
      have hr64 : IntKind.i64.wrap ((r : Int) + 1) = (r : Int) + 1 := IntWalk.i64_in _ (by omega)
      clear hlt hcw
      go_wp2_with fail
      have hsum := HSUM.out
      have hzz := HZ.out
      have hb3 : Below w.heap.size w w2 := HBB.out.trans (HB2.out.mono HBB.out.size)
      have hb4 := ((hb3.setCell (p := ⟨w.heap.size, 0, none⟩) (by simp) (.int .i64 wd)).setCell (p := ⟨w.heap.size, 1, none⟩) (by simp) (.int .i64 hi)).setCell (p := ⟨w.heap.size, 2, none⟩) (by simp) (.slice (some ⟨q2, 0, none⟩) N c2')
      have wm := (((HM.out.set (ob := w.heap.size) (i := 0) (by omega) (.int .i64 wd)).set (ob := w.heap.size) (i := 1) (by omega) (.int .i64 hi)).set (ob := w.heap.size) (i := 2) (by omega) (.slice (some ⟨q2, 0, none⟩) N c2'))
      have y1 : BoxN w2 w.heap.size #[.int .i64 wd, .int .i64 hi, .slice (some ⟨q, 0, none⟩) N c] 26 := HX12.out
      have y2 := ((y1.set 0 (.int .i64 wd)).set 1 (.int .i64 hi)).set 2 (.slice (some ⟨q2, 0, none⟩) N c2')
      have z1 : BoxN w2 (w.heap.size + 1) #[.int .i64 0, .int .i64 0, .slice none 0 0] 26 := HX22.out
      have z2 := ((z1.grown (grown_setCell _ ⟨w.heap.size, 0, none⟩ (.int .i64 wd)) (by simp)).grown (grown_setCell _ ⟨w.heap.size, 1, none⟩ (.int .i64 hi)) (by simp)).grown (grown_setCell _ ⟨w.heap.size, 2, none⟩ (.slice (some ⟨q2, 0, none⟩) N c2')) (by simp)
      go_roundw
      case rel =>
        refine ⟨r + 1, q2, c2', fillN cs wd hi N, by go_num, by omega, by omega, by omega, BoxN.below y2 (alb1 _ _), BoxN.below z2 (alb1 _ _), wm.below (alb1 _ _), hb4.trans ((alb1 _ _).mono hb4.size), .inr ⟨by omega, ?_⟩, ?_⟩
        · rcases HOR.out with ⟨k1, k2⟩ | ⟨k1, k2⟩
          · rw [← k2, HCW.out]; exact hzz
          · exact k2
        · intro i hi_ hh
          have hk := HKEEP.out i hi_ hh
          rcases fillN_or HE1.out HLC.out d1 HOKC.out h1 h2 h3 hi_ with ⟨a, b, e⟩ | ⟨a, b, e, f⟩ | ⟨a, b, e, f⟩
          · rw [e, hk]
          · rw [hk, hh] at a; simp at a
          · rw [hk, hh] at a; simp at a
      case measure => simp [intOf]; omega

end Go.Proofs.Yticbgeknledpcaa
