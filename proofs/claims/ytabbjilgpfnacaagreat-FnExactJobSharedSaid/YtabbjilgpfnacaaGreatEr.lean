/- A job that comes in, opened. -/
import Derived.Test.YtabbjilgpfnacaaGreatAm
import Derived.Test.YtabbjilgpfnacaaGreatEn
import Derived.Test.YtabbjilgpfnacaaGreatChecked
namespace Go.Proofs.YtabbjilgpfnacaaGreat
open Go.RowKit Go.ChangeShapes Go.WideShapes Go.Deep
set_option maxRecDepth 100000
set_option linter.unusedVariables false
set_option linter.unusedSimpArgs false

section
variable {H : Type} {enc : TypeId × Value → H} {w : World} {base : Nat} {spare : Nat → Bool} {held : Bool}
theorem open_pricesW {fuel : Nat} {cs : List Value} {x : DataW H × List MemPlace} (h : DataW.trod enc Tryz.prog w base spare held fuel 27 cs = some x) :
    ∃ (o m : Nat), cs = [.float .f32 o, .float .f32 m] ∧ o < 4294967296 ∧ m < 4294967296 := by
  obtain ⟨xs, n, -, -, hlen, hxl, hg⟩ := DataW.trod_struct Tryz.underlying27 h
  have hl : Tryz.prog.cellsOf 27 = 2 := by kernel_rfl
  have hf : Tryz.prog.cellsOf 25 = 1 := by kernel_rfl
  rw [hl] at hlen
  match cs, hlen with
  | [c0, c1], _ =>
    match xs, hxl with
    | [y0, y1], _ =>
      have g0 : DataW.trod enc Tryz.prog w base spare held n 25 (([c0, c1].drop 0).take (Tryz.prog.cellsOf 25)) = some y0 := hg 0 _ rfl
      have g1 : DataW.trod enc Tryz.prog w base spare held n 25 (([c0, c1].drop 1).take (Tryz.prog.cellsOf 25)) = some y1 := hg 1 _ rfl
      rw [hf] at g0 g1
      obtain ⟨a, ha, la⟩ := trod_f32 Tryz.underlying25 g0
      obtain ⟨b, hb, lb⟩ := trod_f32 Tryz.underlying25 g1
      simp at ha hb
      subst ha hb
      exact ⟨a, b, rfl, la, lb⟩

theorem open_job {r : Reach} {b0 : Nat} {v : Value} {d : DataW H} {p : List MemPlace} (hv : Value.okWide Tryz.prog w r b0 29 v) (h : DataW.Trod enc Tryz.prog w base spare held 29 v d p) :
    ∃ (j : JobX), v = .agg j.v ∧ j.one < 4294967296 ∧ j.more < 4294967296 := by
  obtain ⟨cs, rfl, hsz⟩ := okWide_struct Tryz.underlying29 hv
  obtain ⟨fuel, hf⟩ := h
  obtain ⟨l⟩ := cs
  obtain ⟨ys, n, -, -, hlen, hyl, hg⟩ := DataW.trod_struct Tryz.underlying29 hf
  have hl6 : Tryz.prog.cellsOf 29 = 6 := by kernel_rfl
  have hli : Tryz.prog.cellsOf 2 = 1 := by kernel_rfl
  have hlb : Tryz.prog.cellsOf 4 = 1 := by kernel_rfl
  have hlp : Tryz.prog.cellsOf 27 = 2 := by kernel_rfl
  have e : (Value.agg ⟨l⟩).cells.toList = l := by simp [Value.cells]
  rw [hl6, e] at hlen
  match l, hlen with
  | [c0, c1, c2, c3, c4, c5], _ =>
    match ys, hyl with
    | [y0, y1, y2, y3, y4], _ =>
      have g0 : DataW.trod enc Tryz.prog w base spare held n 2 (([c0, c1, c2, c3, c4, c5].drop 0).take (Tryz.prog.cellsOf 2)) = some y0 := hg 0 _ rfl
      have g1 : DataW.trod enc Tryz.prog w base spare held n 2 (([c0, c1, c2, c3, c4, c5].drop 1).take (Tryz.prog.cellsOf 2)) = some y1 := hg 1 _ rfl
      have g2 : DataW.trod enc Tryz.prog w base spare held n 2 (([c0, c1, c2, c3, c4, c5].drop 2).take (Tryz.prog.cellsOf 2)) = some y2 := hg 2 _ rfl
      have g3 : DataW.trod enc Tryz.prog w base spare held n 4 (([c0, c1, c2, c3, c4, c5].drop 3).take (Tryz.prog.cellsOf 4)) = some y3 := hg 3 _ rfl
      have g4 : DataW.trod enc Tryz.prog w base spare held n 27 (([c0, c1, c2, c3, c4, c5].drop 4).take (Tryz.prog.cellsOf 27)) = some y4 := hg 4 _ rfl
      rw [hli] at g0 g1 g2
      rw [hlb] at g3
      rw [hlp] at g4
      obtain ⟨a, ha, -, -⟩ := DataW.trod_int Tryz.underlying2 g0
      obtain ⟨b, hb, -, -⟩ := DataW.trod_int Tryz.underlying2 g1
      obtain ⟨dd, hd, -, -⟩ := DataW.trod_int Tryz.underlying2 g2
      obtain ⟨sv, hsv, -⟩ := DataW.trod_bool Tryz.underlying4 g3
      obtain ⟨o, m, hom, lo, lm⟩ := open_pricesW g4
      simp at ha hb hd hsv hom
      obtain ⟨h4, h5⟩ := hom
      subst ha hb hd hsv h4 h5
      exact ⟨⟨a, b, dd, sv, o, m⟩, rfl, lo, lm⟩
end

end Go.Proofs.YtabbjilgpfnacaaGreat
