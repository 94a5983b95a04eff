/- A desk that comes in, opened. -/
import Derived.Test.YtabbjilgpfnacaaAg
import Derived.Test.YtabbjilgpfnacaaDe
import Derived.Test.YtabbjilgpfnacaaChecked
namespace Go.Proofs.Ytabbjilgpfnacaa
open Go.RowKit Go.ChangeShapes Go.WideShapes Go.Deep
set_option maxRecDepth 100000
set_option linter.unusedVariables false
set_option linter.unusedSimpArgs false

section
variable {H : Type} {enc : TypeId × Value → H} {w : World} {base : Nat} {spare : Nat → Bool} {held : Bool}

theorem open_picW {fuel : Nat} {cs : List Value} {x : DataW H × List MemPlace} (h : DataW.trod enc Try.prog w base spare held fuel 24 cs = some x) :
    ∃ (t : Tri) (bs : List Nat), cs = [.int .i64 t.a, .int .i64 t.b, .slice t.s t.l t.c] ∧ SlF w (.slice t.s t.l t.c) bs := by
  obtain ⟨a, b, s, n, c, bs, hc, hl, hs, -, -⟩ := pic_cells Try.underlying24 ⟨rfl, rfl, rfl⟩ ⟨by kernel_rfl, by kernel_rfl, by kernel_rfl, by kernel_rfl⟩ Try.underlying2 Try.underlying2 Try.underlying22 Try.underlying44 (by kernel_rfl) h
  exact ⟨⟨a, b, s, n, c⟩, bs, hc, hs⟩

theorem open_mapW {fuel : Nat} {cs : List Value} {x : DataW H × List MemPlace} (h : DataW.trod enc Try.prog w base spare held fuel 26 cs = some x) :
    ∃ (t : Tri) (bs : List Nat), cs = [.int .i64 t.a, .int .i64 t.b, .slice t.s t.l t.c] ∧ SlF w (.slice t.s t.l t.c) bs := by
  obtain ⟨a, b, s, n, c, bs, hc, hl, hs, -, -⟩ := pic_cells Try.underlying26 ⟨rfl, rfl, rfl⟩ ⟨by kernel_rfl, by kernel_rfl, by kernel_rfl, by kernel_rfl⟩ Try.underlying2 Try.underlying2 Try.underlying22 Try.underlying44 (by kernel_rfl) h
  exact ⟨⟨a, b, s, n, c⟩, bs, hc, hs⟩

theorem open_pic {r : Reach} {b0 : Nat} {v : Value} {d : DataW H} {p : List MemPlace} (hv : Value.okWide Try.prog w r b0 24 v) (h : DataW.Trod enc Try.prog w base spare held 24 v d p) :
    ∃ (t : Tri) (bs : List Nat), v = .agg #[.int .i64 t.a, .int .i64 t.b, .slice t.s t.l t.c] ∧ SlF w (.slice t.s t.l t.c) bs := by
  obtain ⟨cs, rfl, hsz⟩ := okWide_struct Try.underlying24 hv
  obtain ⟨fuel, hf⟩ := h
  obtain ⟨l⟩ := cs
  obtain ⟨t, bs, hc, hs⟩ := open_picW hf
  have hc' : l = [.int .i64 t.a, .int .i64 t.b, .slice t.s t.l t.c] := by simpa [Value.cells] using hc
  exact ⟨t, bs, by rw [hc'], hs⟩

theorem open_map {r : Reach} {b0 : Nat} {v : Value} {d : DataW H} {p : List MemPlace} (hv : Value.okWide Try.prog w r b0 26 v) (h : DataW.Trod enc Try.prog w base spare held 26 v d p) :
    ∃ (t : Tri) (bs : List Nat), v = .agg #[.int .i64 t.a, .int .i64 t.b, .slice t.s t.l t.c] ∧ SlF w (.slice t.s t.l t.c) bs := by
  obtain ⟨cs, rfl, hsz⟩ := okWide_struct Try.underlying26 hv
  obtain ⟨fuel, hf⟩ := h
  obtain ⟨l⟩ := cs
  obtain ⟨t, bs, hc, hs⟩ := open_mapW hf
  have hc' : l = [.int .i64 t.a, .int .i64 t.b, .slice t.s t.l t.c] := by simpa [Value.cells] using hc
  exact ⟨t, bs, by rw [hc'], hs⟩

theorem nine_of {l u v w : List Value} (hl : l.length = 9) (h1 : (l.drop 0).take 3 = u) (h2 : (l.drop 3).take 3 = v) (h3 : (l.drop 6).take 3 = w) : l = u ++ v ++ w := by
  subst h1 h2 h3
  have e1 : l = (l.drop 0).take 3 ++ l.drop 3 := by rw [List.drop_zero, List.take_append_drop]
  have e2 : l.drop 3 = (l.drop 3).take 3 ++ l.drop 6 := by
    have := (List.take_append_drop 3 (l.drop 3)).symm
    rwa [List.drop_drop] at this
  have e3 : l.drop 6 = (l.drop 6).take 3 := by rw [List.take_of_length_le]; rw [List.length_drop]; omega
  conv => lhs; rw [e1, e2, e3]
  rw [List.append_assoc]

theorem open_desk {r : Reach} {b0 : Nat} {v : Value} {d : DataW H} {p : List MemPlace} (hv : Value.okWide Try.prog w r b0 28 v) (h : DataW.Trod enc Try.prog w base spare held 28 v d p) :
    ∃ (P Q M : Tri) (xs ys zs : List Nat), v = .agg (desk P Q M) ∧ SlF w (.slice P.s P.l P.c) xs ∧ SlF w (.slice Q.s Q.l Q.c) ys ∧ SlF w (.slice M.s M.l M.c) zs := by
  obtain ⟨cs, rfl, hsz⟩ := okWide_struct Try.underlying28 hv
  obtain ⟨fuel, hf⟩ := h
  obtain ⟨l⟩ := cs
  obtain ⟨ys, n, -, -, hlen, hyl, hg⟩ := DataW.trod_struct Try.underlying28 hf
  have hl9 : Try.prog.cellsOf 28 = 9 := by kernel_rfl
  have hlp : Try.prog.cellsOf 24 = 3 := by kernel_rfl
  have hlm : Try.prog.cellsOf 26 = 3 := by kernel_rfl
  rw [hl9] at hlen
  match ys, hyl with
  | [y0, y1, y2], _ =>
    have g0 : DataW.trod enc Try.prog w base spare held n 24 (((Value.agg ⟨l⟩).cells.toList.drop 0).take (Try.prog.cellsOf 24)) = some y0 := hg 0 _ rfl
    have g1 : DataW.trod enc Try.prog w base spare held n 24 (((Value.agg ⟨l⟩).cells.toList.drop 3).take (Try.prog.cellsOf 24)) = some y1 := hg 1 _ rfl
    have g2 : DataW.trod enc Try.prog w base spare held n 26 (((Value.agg ⟨l⟩).cells.toList.drop 6).take (Try.prog.cellsOf 26)) = some y2 := hg 2 _ rfl
    rw [hlp] at g0 g1
    rw [hlm] at g2
    obtain ⟨P, xs, hP, sP⟩ := open_picW g0
    obtain ⟨Q, ys, hQ, sQ⟩ := open_picW g1
    obtain ⟨M, zs, hM, sM⟩ := open_mapW g2
    have e : (Value.agg ⟨l⟩).cells.toList = l := by simp [Value.cells]
    rw [e] at hlen hP hQ hM
    have := nine_of hlen hP hQ hM
    subst this
    exact ⟨P, Q, M, xs, ys, zs, rfl, sP, sQ, sM⟩

end

end Go.Proofs.Ytabbjilgpfnacaa
