/- PathVolume, sums of paths, the same volumes. -/
import Derived.Test.YtfhlpabbacopjaaPv
import Derived.Test.YtfhlpabbacopjaaSame
namespace Go.Proofs.Ytfhlpabbacopjaa
open Go.RowKit
set_option maxRecDepth 100000
set_option linter.unusedVariables false
set_option linter.unusedSimpArgs false

theorem pathOk_yes (w : World) (wd hi dp k : Nat) (sa : Option Addr) (n c : Nat) (one more : Int) (hv : vVol wd hi dp n = true) (hk : k < 8) (h1 : 0 ≤ one) (h2 : one ≤ more) (h3 : more ≤ 1000000) :
    Calls Try.prog 42 #[.agg #[.int .i64 wd, .int .i64 hi, .int .i64 dp, .slice sa n c], .agg #[.float .f32 (fq 2 one), .float .f32 (fq 2 more)], .int .i64 k] w fun e w' => e = .returned (.bool true) ∧ Below w.heap.size w w' := by
  obtain ⟨x1, x2, x3, e1, e2, e3, e4, b1, b2, b3, b4, b5, b6, b7, b8⟩ := vVol_spec hv
  have hn : n ≤ 2048 := by omega
  have K := Lib.hid (fun W => validPrices_yes W one more h1 h2 h3)
  have hin : (decide ((0 : Int) ≤ k) && decide ((k : Int) ≤ 7)) = true := by simp; omega
  have hb0 := below_two w (.cells #[.int .i64 wd, .int .i64 hi, .int .i64 dp, .slice sa n c] 26) (.cells #[.float .f32 (fq 2 one), .float .f32 (fq 2 more)] 30)
  generalize fq 2 one = vo at *
  generalize fq 2 more = vm at *
  clear e1 e2 e3 e4 b1 b2 b3 b4 b5 b6 b7 b8
  go_enter Try.func42, Try.ntmps42
  go_wp2_with fail
  refine (validVolume_any _ _ _ _ _ _ (by omega) _).mono ?_
  rw [hv]
  rintro e w1 ⟨rfl, hb1⟩
  obtain ⟨hc1, hf1⟩ := bcellV hb1
  have hbb := hb0.trans (hb1.mono hb0.size)
  have hz1 : w.heap.size + 1 < w1.heap.size := by have := hb1.size; simp at this; omega
  clear hb1 hb0
  go_wp2_with fail
  refine (K.out _).mono ?_
  rintro e w2 ⟨rfl, hb2⟩
  have hbc := hbb.trans (hb2.mono hbb.size)
  go_wp2_with fail
  refine (in_any _ _ _ _).mono ?_
  rw [hin]
  rintro e w3 ⟨rfl, rfl⟩
  go_wp2
  go_ret
  exact ⟨rfl, hbc⟩

/-- A volume told along a direction, and true. -/
def MakesAlOk (w : World) (wd hi dp : Nat) (dx dy : Int) (F : Int → Int → List Int → List Int → List Int) (own : Int → Int → List Int) (Ok : Int → Int → List Int → Prop) (e : Ending) (w' : World) : Prop :=
  ∃ (q c : Nat) (bs : List Nat) (P : Int → Int → List Int), e = .returned (.tuple #[.agg #[.int .i64 wd, .int .i64 hi, .int .i64 dp, .slice (some ⟨q, 0, none⟩) (List.length bs) c], .bool true]) ∧ OwnF w' w.heap.size (.slice (some ⟨q, 0, none⟩) (List.length bs) c) bs ∧ QV bs wd hi dp P ∧ IsAlong F own dx dy wd hi P ∧ (∀ x y, insI x y wd hi → Ok x y (P x y)) ∧ Below w.heap.size w w'

theorem pathVolume_ok (w : World) (wd hi dp b off c k : Nat) (bs : List Nat) (own : Int → Int → List Int) (one more : Int)
    (h : VolOk w wd hi dp b off c bs) (hblt : b < w.heap.size) (hq : QV bs wd hi dp own) (hk : k < 8) (hqb : ∀ x y, insI x y wd hi → qb2 (own x y)) (h1 : 0 ≤ one) (h2 : one ≤ more) (h3 : more ≤ 1000000) :
    Calls Try.prog 12 #[.agg #[.int .i64 wd, .int .i64 hi, .int .i64 dp, .slice (some ⟨b, off, none⟩) bs.length c], .agg #[.float .f32 (fq 2 one), .float .f32 (fq 2 more)], .int .i64 k] w (MakesAlOk w wd hi dp (wayX k) (wayY k) (pathG (fun _ _ _ _ => (one, more)) (wayX k) (wayY k)) own (PathOkI own dp)) := by
  obtain ⟨d1, d2, d3, d4, d5, d6, d7, d8⟩ := h.dims
  have K := Lib.hid (fun W => pathOk_yes W wd hi dp k (some ⟨b, off, none⟩) bs.length c one more h.vl hk h1 h2 h3)
  have hb0 := (below_two w (.cells #[.int .i64 wd, .int .i64 hi, .int .i64 dp, .slice (some ⟨b, off, none⟩) bs.length c] 26) (.cells #[.float .f32 (fq 2 one), .float .f32 (fq 2 more)] 30)).alloc (by simp; omega) (.cells #[.int .i64 0, .int .i64 0, .int .i64 0, .slice none 0 0] 26)
  have KG := Lib.hid (fun W => same_gives W wd hi one more)
  have H := Lib.hid h
  generalize hVO : fq 2 one = vo at *
  generalize hVM : fq 2 more = vm at *
  clear hVO hVM h
  go_enter Try.func12, Try.ntmps12
  go_wp2_with fail
  refine (K.out _).mono ?_
  rintro e w1 ⟨rfl, hb1⟩
  obtain ⟨hc1, hf1⟩ := bcellV hb1
  have hbb := hb0.trans (hb1.mono hb0.size)
  have hz1 : w.heap.size + 2 < w1.heap.size := by have := hb1.size; simp at this; omega
  have HBB := Lib.hid hbb
  clear hb1 hb0
  go_wp2_with fail
  refine (path_any w1 wd hi dp b off c k bs own _ _ (H.out.below HBB.out) (by omega) hq hk hqb (KG.out w1) (fun x y u t _ _ => ⟨h1, by show 0 ≤ more; omega, by show one ≤ _; omega, h3⟩)).mono ?_
  rintro e w2 ⟨q, cc, bs', P, rfl, hown, hqv, hal, hok, hb2⟩
  have hbc := hbb.trans (hb2.mono hbb.size)
  obtain ⟨hc2, hf2⟩ := bcellV hb2
  have hz2 : w.heap.size + 2 < w2.heap.size := by have := hb2.size; omega
  have HQ := Lib.hid hqv
  have HA := Lib.hid hal
  have HO := Lib.hid hok
  clear hqv hal hok
  go_wp2
  refine bodyPost_ret (v := .tuple #[.agg #[.int .i64 wd, .int .i64 hi, .int .i64 dp, .slice (some ⟨q, 0, none⟩) bs'.length cc], .bool true]) (by simp [results, Try.results12, go_sem, hc2, hz2, hc1, hz1]) rfl ?_
  exact ⟨q, cc, bs', P, rfl, ((((hown.set (by first | omega | (simp; done) | (simp; omega)) _).set (by first | omega | (simp; done) | (simp; omega)) _).set (by first | omega | (simp; done) | (simp; omega)) _).set (by first | omega | (simp; done) | (simp; omega)) _).mono (by first | omega | (simp; done) | (simp; omega)), HQ.out, HA.out, HO.out, (((hbc.setCell (by first | omega | (simp; done) | (simp; omega)) _).setCell (by first | omega | (simp; done) | (simp; omega)) _).setCell (by first | omega | (simp; done) | (simp; omega)) _).setCell (by first | omega | (simp; done) | (simp; omega)) _⟩

theorem sameVolume_yes (w : World) (a b d : Int) (s1 s2 : Option Addr) (n1 n2 c1 c2 : Nat) (xs ys : List Nat) (h1 : SlF w (.slice s1 n1 c1) xs) (h2 : SlF w (.slice s2 n2 c2) ys) (he : xs.map fl = ys.map fl) :
    Calls Try.prog 16 #[.agg #[.int .i64 a, .int .i64 b, .int .i64 d, .slice s1 n1 c1], .agg #[.int .i64 a, .int .i64 b, .int .i64 d, .slice s2 n2 c2]] w fun e w' => e = .returned (.bool true) ∧ Below w.heap.size w w' := by
  have hb := below_two w (.cells #[.int .i64 a, .int .i64 b, .int .i64 d, .slice s1 n1 c1] 26) (.cells #[.int .i64 a, .int .i64 b, .int .i64 d, .slice s2 n2 c2] 26)
  have K := Lib.hid (sameList_yes _ _ _ xs ys (h1.below hb) (h2.below hb) he)
  go_enter Try.func16, Try.ntmps16
  go_wp2_with fail
  refine K.out.mono ?_
  rintro e w' ⟨rfl, rfl⟩
  go_wp2
  go_ret
  exact ⟨rfl, hb⟩

theorem sums1_gives (w0 : World) (wd hi dp : Nat) : Gives3 w0 (.func (.func 92) #[] #[]) wd hi dp (fun _ _ _ => 0) := by
  refine ⟨92, _, rfl, Try.call92, fun x y d W hx hy hd hbW => ?_⟩
  show Calls _ _ #[.int .i64 x, .int .i64 y, .int .i64 d] _ _
  go_enter Try.func92, Try.ntmps92
  go_wp2
  go_ret
  exact ⟨0, rfl, by omega, (show fl 0 = 0 by decide), Below.refl _ _⟩


end Go.Proofs.Ytfhlpabbacopjaa
