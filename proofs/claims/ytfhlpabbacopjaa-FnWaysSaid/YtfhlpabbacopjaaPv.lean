/- Paths of a volume: PathVolume. -/
import Derived.Test.YtfhlpabbacopjaaAm
namespace Go.Proofs.Ytfhlpabbacopjaa
open Go.RowKit
set_option maxRecDepth 100000
set_option linter.unusedVariables false
set_option linter.unusedSimpArgs false

theorem same_gives (w0 : World) (wd hi : Nat) (one more : Int) :
    GivesP w0 (.func (.func 44) #[.agg #[.float .f32 (fq 2 one), .float .f32 (fq 2 more)]] #[]) wd hi (fun _ _ _ _ => (one, more)) := by
  refine ⟨44, _, _, rfl, Try.call44, fun x y u t W h1 h2 hW => ?_⟩
  show Calls _ _ #[.agg #[.float .f32 (fq 2 one), .float .f32 (fq 2 more)], .int .i64 x, .int .i64 y, .int .i64 u, .int .i64 t] _ _
  generalize fq 2 one = vo
  generalize fq 2 more = vm
  go_enter Try.func44, Try.ntmps44
  go_wp2
  refine bodyPost_ret (v := .agg #[.float .f32 vo, .float .f32 vm]) (by simp [results, Try.results44, go_sem]) rfl ⟨rfl, ?_⟩
  exact (((Below.refl _ _).alloc (Nat.le_refl _) _).alloc (by simp) _)

/-- What a path's cell may cost. -/
def PathOkI (own : Int → Int → List Int) (dp : Nat) (x y : Int) (l : List Int) : Prop := l.length = dp ∧ ∀ d, d < dp → (own x y).getD d 0 ≤ l.getD d 0 ∧ l.getD d 0 ≤ (own x y).getD d 0 + 1000000
theorem qb3_of {l : List Int} {dp : Nat} (hl : l.length = dp) (h : ∀ d, d < dp → (l.getD d 0).natAbs ≤ 3000000) : qb3 l := by
  intro k hk
  obtain ⟨i, hi, rfl⟩ := List.getElem_of_mem hk
  have := h i (by omega)
  rwa [List.getD_eq_getElem?_getD, List.getElem?_eq_getElem hi] at this
theorem PathOkI.qb3 {own : Int → Int → List Int} {dp : Nat} {x y : Int} {l : List Int} (h : PathOkI own dp x y l) (hb : qb2 (own x y)) : qb3 l :=
  qb3_of h.1 fun d hd => by have := h.2 d hd; have := hb.get d; omega
def pathG (pr : Int → Int → Int → Int → Int × Int) (dx dy : Int) (x y : Int) (own b : List Int) : List Int := pathF (pr x y (x - dx) (y - dy)).1 (pr x y (x - dx) (y - dy)).2 own b

theorem path1_gives (w0 : World) (wd hi dp pb k : Nat) (own : Int → Int → List Int) (fv : Value) (pr : Int → Int → Int → Int → Int × Int) (hc : w0.cell? ⟨pb, 0, none⟩ = some fv) (hpb : pb < w0.heap.size) (hf : GivesP w0 fv wd hi pr)
    (hpr : ∀ x y u t, insI x y wd hi → insI u t wd hi → 0 ≤ (pr x y u t).1 ∧ 0 ≤ (pr x y u t).2 ∧ (pr x y u t).1 ≤ 1000000 ∧ (pr x y u t).2 ≤ 1000000)
    (hl : ∀ x y, insI x y wd hi → (own x y).length = dp) (hb : ∀ x y, insI x y wd hi → qb2 (own x y)) (h1 : 1 ≤ dp) (h8 : dp ≤ 8) :
    GivesA w0 (.func (.func 88) #[] #[.pointer (some ⟨pb, 0, none⟩)]) wd hi dp own (PathOkI own dp) (wayX k) (wayY k) (pathG pr (wayX k) (wayY k)) := by
  refine ⟨88, _, rfl, Try.call88, fun x y W before b1 o1 b2 o2 hi1 hi2 hW s1 l1 s2 l2 hbl hok => ?_⟩
  have hp := hpr x y _ _ hi1 hi2
  refine ⟨⟨by unfold pathG; rw [pathF_length]; exact hl x y hi1, fun d hd => ?_⟩, by unfold pathG; rw [pathF_length]; exact hl x y hi1, ?_⟩
  · have := pathF_bounds hp.1 hp.2.1 (own := own x y) (b := before) (by rw [hl x y hi1, hbl]) (d := d) (by rw [hl x y hi1]; exact hd)
    unfold pathG
    omega
  · obtain ⟨fid, recv, caps, h2, h3, h4⟩ := hf
    have hfW : GivesP W fv wd hi pr := ⟨fid, recv, caps, h2, h3, fun x y u t W' q1 q2 q3 => h4 x y u t W' q1 q2 (hW.trans (q3.mono hW.size))⟩
    exact path1_any W b1 o1 dp b2 o2 dp dp pb wd hi (own x y) before fv pr x y _ _ s1 l1 (hl x y hi1) (hb x y hi1) s2 l2 hbl (hok.qb3 (hb _ _ hi2)) (by rw [hW.cell (p := ⟨pb, 0, none⟩) hpb]; exact hc) hfW hi1 hi2 hp h1 h8

set_option maxHeartbeats 1000000 in
theorem path_any (w : World) (wd hi dp b off c k : Nat) (bs : List Nat) (own : Int → Int → List Int) (fv : Value) (pr : Int → Int → Int → Int → Int × Int)
    (h : VolOk w wd hi dp b off c bs) (hblt : b < w.heap.size) (hq : QV bs wd hi dp own) (hk : k < 8) (hqb : ∀ x y, insI x y wd hi → qb2 (own x y)) (hf : GivesP w fv wd hi pr)
    (hpr : ∀ x y u t, insI x y wd hi → insI u t wd hi → 0 ≤ (pr x y u t).1 ∧ 0 ≤ (pr x y u t).2 ∧ (pr x y u t).1 ≤ 1000000 ∧ (pr x y u t).2 ≤ 1000000) :
    Calls Try.prog 43 #[.agg #[.int .i64 wd, .int .i64 hi, .int .i64 dp, .slice (some ⟨b, off, none⟩) bs.length c], .int .i64 k, fv] w (MakesAl w wd hi dp (wayX k) (wayY k) (pathG pr (wayX k) (wayY k)) own (PathOkI own dp)) := by
  obtain ⟨d1, d2, d3, d4, d5, d6, d7, d8⟩ := h.dims
  have hl : ∀ x y, insI x y wd hi → (own x y).length = dp := by
    rintro x y ⟨x0, x1, y0, y1⟩
    obtain ⟨x, rfl⟩ := Int.eq_ofNat_of_zero_le x0
    obtain ⟨y, rfl⟩ := Int.eq_ofNat_of_zero_le y0
    exact (hq.2 x y (by omega) (by omega)).1
  have hb0 := (below_two w (.cells #[.int .i64 wd, .int .i64 hi, .int .i64 dp, .slice (some ⟨b, off, none⟩) bs.length c] 26) (.cells #[fv] 74)).alloc (by simp; omega) (.cells #[.int .i64 0, .int .i64 0, .int .i64 0, .slice none 0 0] 26)
  have hfW : GivesP (((w.alloc (.cells #[.int .i64 wd, .int .i64 hi, .int .i64 dp, .slice (some ⟨b, off, none⟩) bs.length c] 26)).alloc (.cells #[fv] 74)).alloc (.cells #[.int .i64 0, .int .i64 0, .int .i64 0, .slice none 0 0] 26)) fv wd hi pr := by
    obtain ⟨fid, recv, caps, h2, h3, h4⟩ := hf
    exact ⟨fid, recv, caps, h2, h3, fun x y u t W' q1 q2 q3 => h4 x y u t W' q1 q2 (hb0.trans (q3.mono hb0.size))⟩
  have hveil : Value.oneCell' fv = true := by obtain ⟨fid, recv, caps, rfl, _⟩ := hf; rfl
  have HV := Lib.hid (h.below hb0)
  have HF := Lib.hid hfW
  have HB := Lib.hid hb0
  obtain ⟨fid, recv, caps, rfl, -, -⟩ := hf
  clear hfW h hb0
  go_enter Try.func43, Try.ntmps43
  go_wp2_with fail
  refine (along_any _ wd hi dp b off c k bs own _ _ _ HV.out (by simp; omega) hq hk hqb (fun x y hxy => ⟨hl x y hxy, fun d hd => by omega⟩) (fun x y l hxy hok => hok.qb3 (hqb x y hxy)) (path1_gives _ wd hi dp (w.heap.size + 1) k own _ pr (by simp [go_sem]) (by simp) HF.out hpr hl hqb d5 d6)).mono ?_
  rintro e w2 ⟨q, cc, bs', P, rfl, hown, hqv, hal, hok, hb2⟩
  have hbb := HB.out.trans (hb2.mono HB.out.size)
  obtain ⟨hc2, hf2⟩ := bcellV hb2
  have hz2 : w.heap.size + 2 < w2.heap.size := by have := hb2.size; simp at this; omega
  have HQ := Lib.hid hqv
  have HA := Lib.hid hal
  have HO := Lib.hid hok
  clear hqv hal hok
  go_wp2
  refine bodyPost_ret (v := .agg #[.int .i64 wd, .int .i64 hi, .int .i64 dp, .slice (some ⟨q, 0, none⟩) bs'.length cc]) (by simp [results, Try.results43, go_sem, hc2, hz2]) rfl ?_
  exact ⟨q, cc, bs', P, rfl, ((((hown.set (by first | omega | (simp; done) | (simp; omega)) _).set (by first | omega | (simp; done) | (simp; omega)) _).set (by first | omega | (simp; done) | (simp; omega)) _).set (by first | omega | (simp; done) | (simp; omega)) _).mono (by first | omega | (simp; done) | (simp; omega)), HQ.out, HA.out, HO.out, (((hbb.setCell (by first | omega | (simp; done) | (simp; omega)) _).setCell (by first | omega | (simp; done) | (simp; omega)) _).setCell (by first | omega | (simp; done) | (simp; omega)) _).setCell (by first | omega | (simp; done) | (simp; omega)) _⟩

end Go.Proofs.Ytfhlpabbacopjaa
