/- A desk that comes in, opened. -/
import Derived.Test.YtabbjilgpfnacaaGreatAg
import Derived.Test.YtabbjilgpfnacaaGreatDe
import Derived.Test.YtabbjilgpfnacaaGreatChecked
namespace Go.Proofs.YtabbjilgpfnacaaGreat
open Go.RowKit Go.ChangeShapes Go.WideShapes Go.Deep
set_option maxRecDepth 100000
set_option linter.unusedVariables false
set_option linter.unusedSimpArgs false

section
variable {H : Type} {enc : TypeId × Value → H} {w : World} {base : Nat} {spare : Nat → Bool} {held : Bool}

theorem open_picW {fuel : Nat} {cs : List Value} {x : DataW H × List MemPlace} (h : DataW.trod enc Tryz.prog w base spare held fuel 24 cs = some x) :
    ∃ (t : Tri) (bs : List Nat), cs = [.int .i64 t.a, .int .i64 t.b, .slice t.s t.l t.c] ∧ SlF w (.slice t.s t.l t.c) bs := by
  obtain ⟨a, b, s, n, c, bs, hc, hl, hs, -, -⟩ := pic_cells Tryz.underlying24 ⟨rfl, rfl, rfl⟩ ⟨by kernel_rfl, by kernel_rfl, by kernel_rfl, by kernel_rfl⟩ Tryz.underlying2 Tryz.underlying2 Tryz.underlying22 Tryz.underlying25 (by kernel_rfl) h
  exact ⟨⟨a, b, s, n, c⟩, bs, hc, hs⟩

theorem open_pic {r : Reach} {b0 : Nat} {v : Value} {d : DataW H} {p : List MemPlace} (hv : Value.okWide Tryz.prog w r b0 24 v) (h : DataW.Trod enc Tryz.prog w base spare held 24 v d p) :
    ∃ (t : Tri) (bs : List Nat), v = .agg #[.int .i64 t.a, .int .i64 t.b, .slice t.s t.l t.c] ∧ SlF w (.slice t.s t.l t.c) bs := by
  obtain ⟨cs, rfl, hsz⟩ := okWide_struct Tryz.underlying24 hv
  obtain ⟨fuel, hf⟩ := h
  obtain ⟨l⟩ := cs
  obtain ⟨t, bs, hc, hs⟩ := open_picW hf
  have hc' : l = [.int .i64 t.a, .int .i64 t.b, .slice t.s t.l t.c] := by simpa [Value.cells] using hc
  exact ⟨t, bs, by rw [hc'], hs⟩

theorem nine_of {l u v w : List Value} (hl : l.length = 9) (h1 : (l.drop 0).take 3 = u) (h2 : (l.drop 3).take 3 = v) (h3 : (l.drop 6).take 3 = w) : l = u ++ v ++ w := by
  subst h1 h2 h3
  have e1 : l = (l.drop 0).take 3 ++ l.drop 3 := by rw [List.drop_zero, List.take_append_drop]
  have e2 : l.drop 3 = (l.drop 3).take 3 ++ l.drop 6 := by
    have := (List.take_append_drop 3 (l.drop 3)).symm
    rwa [List.drop_drop] at this
  have e3 : l.drop 6 = (l.drop 6).take 3 := by rw [List.take_of_length_le]; rw [List.length_drop]; omega
  conv => lhs; rw [e1, e2, e3]
  rw [List.append_assoc]

end

end Go.Proofs.YtabbjilgpfnacaaGreat
