/- Tiles: copied, and opened. -/
import Derived.Test.YtabbjilgpfnacaaEr
import Derived.Test.YtabbjilgpfnacaaGk
namespace Go.Proofs.Ytabbjilgpfnacaa
section
open Go.RowKit Ieee
set_option maxRecDepth 100000
set_option linter.unusedVariables false
set_option linter.unusedSimpArgs false

theorem toTileE (w : World) (a b : Int) : Calls Try.prog 24 #[.agg #[.int .i64 a, .int .i64 b]] w fun e w' => e = .returned (.agg #[.int .i64 a, .int .i64 b]) ∧ Below w.heap.size w w' := by
  obtain ⟨W0, hW0⟩ : ∃ W, W = ((w.alloc (.cells #[.int .i64 a, .int .i64 b] 60)).alloc (.cells #[.int .i64 0, .int .i64 0] 63)).alloc (.cells #[.int .i64 0, .int .i64 0] 63) := ⟨_, rfl⟩
  go_enter Try.func24, Try.ntmps24
  go_wp2_with fail
  refine bodyPost_ret (v := .agg #[.int .i64 a, .int .i64 b]) (by simp [results, Try.results24, go_sem]) rfl ?_
  refine ⟨rfl, ?_⟩
  first
    | exact ((below_two w _ _).alloc (by simp; try omega) _)
    | (repeat' (first | exact ((below_two w _ _).alloc (by simp; try omega) _) | (refine Below.setCell ?_ (by simp; try omega) _)))

end

section
open Go.RowKit Go.ChangeShapes Go.WideShapes Go.Deep
set_option maxRecDepth 100000
set_option linter.unusedVariables false
set_option linter.unusedSimpArgs false
variable {H : Type} {enc : TypeId × Value → H} {w : World} {base : Nat} {spare : Nat → Bool} {held : Bool}
theorem open_tile {r : Reach} {b0 : Nat} {v : Value} {d : DataW H} {p : List MemPlace} (hv : Value.okWide Try.prog w r b0 60 v) (h : DataW.Trod enc Try.prog w base spare held 60 v d p) :
    ∃ (a b : Int), v = .agg #[.int .i64 a, .int .i64 b] := by
  obtain ⟨cs, rfl, hsz⟩ := okWide_struct Try.underlying60 hv
  obtain ⟨fuel, hf⟩ := h
  obtain ⟨l⟩ := cs
  obtain ⟨ys, n, -, -, hlen, hyl, hg⟩ := DataW.trod_struct Try.underlying60 hf
  have hl2 : Try.prog.cellsOf 60 = 2 := by kernel_rfl
  have hli : Try.prog.cellsOf 2 = 1 := by kernel_rfl
  have e : (Value.agg ⟨l⟩).cells.toList = l := by simp [Value.cells]
  rw [hl2, e] at hlen
  match l, hlen with
  | [c0, c1], _ =>
    match ys, hyl with
    | [y0, y1], _ =>
      have g0 : DataW.trod enc Try.prog w base spare held n 2 (([c0, c1].drop 0).take (Try.prog.cellsOf 2)) = some y0 := hg 0 _ rfl
      have g1 : DataW.trod enc Try.prog w base spare held n 2 (([c0, c1].drop 1).take (Try.prog.cellsOf 2)) = some y1 := hg 1 _ rfl
      rw [hli] at g0 g1
      obtain ⟨a, ha, -, -⟩ := DataW.trod_int Try.underlying2 g0
      obtain ⟨b, hb, -, -⟩ := DataW.trod_int Try.underlying2 g1
      simp at ha hb
      subst ha hb
      exact ⟨a, b, rfl⟩
end

section
open Go.RowKit Ieee
/-- What a call that makes a list of floats leaves, seen from an earlier world. -/
def RwFar (ok : Bool) (L : List Nat) (w0 V : World) (e : Ending) (w' : World) : Prop :=
  ∃ s c bs, e = .returned (.tuple #[.slice s (List.length bs) c, .bool ok]) ∧ OwnF w' w0.heap.size (.slice s (List.length bs) c) bs ∧ bs.map fl = L ∧ Below V.heap.size V w'
theorem RwRes.far {ok : Bool} {L : List Nat} {w0 V w' : World} {e : Ending} (h : RwRes ok L V e w') (hb : Below w0.heap.size w0 V) : RwFar ok L w0 V e w' := by
  obtain ⟨s, c, bs, he, ho, hc, hbv⟩ := h
  exact ⟨s, c, bs, he, ho.mono hb.size, hc, hbv⟩
theorem jrL_len (j : JobX) (p q : Tri) (f n : Int) (xs ys : List Nat) : (jrL j p q f n xs ys).length ≤ 576 := by
  unfold jrL
  cases h : jrOk j p q f n xs ys
  · simp
  · rw [if_pos rfl, tab_length]
    unfold jrOk at h
    simp only [Bool.and_eq_true] at h
    obtain ⟨⟨⟨hj, hv⟩, ht⟩, -⟩ := h
    obtain ⟨wd, hi, k, t1, t2, t3, t4, t5, hvv, e1, e2, e3, hpr⟩ := job_right xs ys hj hv
    obtain ⟨hN, d1, d2, d3, d4, d5, d6, d7, d8⟩ := vVol_picE hvv
    rw [e2] at ht
    obtain ⟨F, M, rfl, rfl, m1, m2⟩ := tileOk_spec ht
    rw [e1]
    simp only [Int.toNat_natCast]
    exact Nat.mul_le_mul (show M ≤ 24 by omega) d2
end

end Go.Proofs.Ytabbjilgpfnacaa
