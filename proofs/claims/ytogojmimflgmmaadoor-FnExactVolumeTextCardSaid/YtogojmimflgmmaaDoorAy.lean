/- A volume that comes in, opened. -/
import Derived.Test.YtogojmimflgmmaaDoorAg
import Derived.Test.YtogojmimflgmmaaDoorChecked
namespace Go.Proofs.YtogojmimflgmmaaDoor
open Go.RowKit Go.ChangeShapes Go.WideShapes Go.Deep
set_option maxRecDepth 100000
set_option linter.unusedVariables false
set_option linter.unusedSimpArgs false

section
variable {H : Type} {enc : TypeId × Value → H} {P : Program} {w : World} {base : Nat} {spare : Nat → Bool} {held : Bool}
/-- A struct of three whole numbers and a slice of numbers, at its cells. -/
theorem vol_cells {t e : TypeId} {f0 f1 f2 f3 : Field} {fuel : Nat} {cs : List Value} {x : DataW H × List MemPlace} (hs : P.underlying t = some (.struct #[f0, f1, f2, f3])) (o : f0.offset = 0 ∧ f1.offset = 1 ∧ f2.offset = 2 ∧ f3.offset = 3) (hc : P.cellsOf t = 4 ∧ P.cellsOf f0.type = 1 ∧ P.cellsOf f1.type = 1 ∧ P.cellsOf f2.type = 1 ∧ P.cellsOf f3.type = 1)
    (k0 : P.underlying f0.type = some (.int .i64)) (k1 : P.underlying f1.type = some (.int .i64)) (k2 : P.underlying f2.type = some (.int .i64)) (k3 : P.underlying f3.type = some (.slice e)) (ke : P.underlying e = some (.float .f32)) (kc : P.cellsOf e = 1)
    (h : DataW.trod enc P w base spare held fuel t cs = some x) :
    ∃ (a b d : Int) (s : Option Addr) (n c : Nat) (bs : List Nat), cs = [.int .i64 a, .int .i64 b, .int .i64 d, .slice s n c] ∧ bs.length = n ∧ SlF w (.slice s n c) bs := by
  obtain ⟨xs, n, -, -, hlen, hxl, hg⟩ := DataW.trod_struct hs h
  rw [hc.1] at hlen
  match cs, hlen with
  | [c0, c1, c2, c3], _ =>
    match xs, hxl with
    | [y0, y1, y2, y3], _ =>
      have g0 := hg 0 f0 rfl
      have g1 := hg 1 f1 rfl
      have g2 := hg 2 f2 rfl
      have g3 := hg 3 f3 rfl
      rw [o.1, hc.2.1] at g0
      rw [o.2.1, hc.2.2.1] at g1
      rw [o.2.2.1, hc.2.2.2.1] at g2
      rw [o.2.2.2, hc.2.2.2.2] at g3
      obtain ⟨a, ha, -, -⟩ := DataW.trod_int k0 g0
      obtain ⟨b, hb, -, -⟩ := DataW.trod_int k1 g1
      obtain ⟨d, hd, -, -⟩ := DataW.trod_int k2 g2
      obtain ⟨s, m, c, bs, hcs, hbl, hsl⟩ := open_f32s k3 ke kc g3
      simp at ha hb hd hcs
      subst ha hb hd hcs
      exact ⟨a, b, d, s, m, c, bs, rfl, hbl, hsl⟩
end

/-- A volume's fields. -/
structure VolX where
  a : Int
  b : Int
  d : Int
  s : Option Addr
  l : Nat
  c : Nat
section
variable {H : Type} {enc : TypeId × Value → H} {w : World} {base : Nat} {spare : Nat → Bool} {held : Bool}
theorem open_volW {fuel : Nat} {cs : List Value} {x : DataW H × List MemPlace} (h : DataW.trod enc Tryd.prog w base spare held fuel 41 cs = some x) :
    ∃ (t : VolX) (bs : List Nat), cs = [.int .i64 t.a, .int .i64 t.b, .int .i64 t.d, .slice t.s t.l t.c] ∧ SlF w (.slice t.s t.l t.c) bs := by
  obtain ⟨a, b, d, s, n, c, bs, hc, hl, hs⟩ := vol_cells Tryd.underlying41 ⟨rfl, rfl, rfl, rfl⟩ ⟨by kernel_rfl, by kernel_rfl, by kernel_rfl, by kernel_rfl, by kernel_rfl⟩ Tryd.underlying2 Tryd.underlying2 Tryd.underlying2 Tryd.underlying22 Tryd.underlying65 (by kernel_rfl) h
  exact ⟨⟨a, b, d, s, n, c⟩, bs, hc, hs⟩

theorem open_vol {r : Reach} {b0 : Nat} {v : Value} {d : DataW H} {p : List MemPlace} (hv : Value.okWide Tryd.prog w r b0 41 v) (h : DataW.Trod enc Tryd.prog w base spare held 41 v d p) :
    ∃ (t : VolX) (bs : List Nat), v = .agg #[.int .i64 t.a, .int .i64 t.b, .int .i64 t.d, .slice t.s t.l t.c] ∧ SlF w (.slice t.s t.l t.c) bs := by
  obtain ⟨cs, rfl, hsz⟩ := okWide_struct Tryd.underlying41 hv
  obtain ⟨fuel, hf⟩ := h
  obtain ⟨l⟩ := cs
  obtain ⟨t, bs, hc, hs⟩ := open_volW hf
  have hc' : l = [.int .i64 t.a, .int .i64 t.b, .int .i64 t.d, .slice t.s t.l t.c] := by simpa [Value.cells] using hc
  exact ⟨t, bs, by rw [hc'], hs⟩
end

end Go.Proofs.YtogojmimflgmmaaDoor
