/- JournalOf: the reference's, of any lines. -/
import Derived.Test.YtmcmcppleikajaaDoorBj
import Derived.StillTactics
import Derived.Deep.RegionHeld3
namespace Go.Proofs.YtmcmcppleikajaaDoor
open Go.RowKit
set_option maxRecDepth 100000
set_option linter.unusedVariables false
set_option linter.unusedSimpArgs false

theorem jrnT {P : List (List UInt8)} {p : List UInt8} {i : Nat} (hp : P[i]? = some p) : jrn 0 (P.take (i + 1)) = jrn 0 (P.take i) ++ entJ (zJ 0 (P.take i)) p ∧ zJ 0 (P.take (i + 1)) = ckF (zJ 0 (P.take i)) p := by
  rw [take_snocJ hp, jrn_snoc, zJ_snoc]; exact ⟨rfl, rfl⟩
theorem getD_some {P : List (List UInt8)} {p : List UInt8} {i : Nat} (h : i < P.length) (hp : P.getD i [] = p) : P[i]? = some p := by
  rw [← hp, List.getD_eq_getElem?_getD, List.getElem?_eq_getElem h]; rfl
theorem sumJ_take (P : List (List UInt8)) (i : Nat) : sumJ (P.take i) ≤ sumJ P := by
  have h2 : sumJ P = sumJ (P.take i) + sumJ (P.drop i) := by rw [← sumJ_app, List.take_append_drop]
  omega

theorem noNl_of {p : List UInt8} (h : ∀ j, j < p.length → p[j]? ≠ some 10) : noNl p = true := by
  unfold noNl
  rw [Bool.not_eq_true']
  cases hc : p.contains 10
  · rfl
  · have hm : (10 : UInt8) ∈ p := by simpa using hc
    obtain ⟨j, hj, he⟩ := List.getElem_of_mem hm
    exact absurd (by rw [List.getElem?_eq_getElem hj, he]) (h j hj)
theorem noNl_no {p : List UInt8} {j : Nat} (h : p[j]? = some 10) : noNl p = false := by
  unfold noNl
  have hm : (10 : UInt8) ∈ p := List.mem_of_getElem? h
  have : p.contains 10 = true := by simpa using hm
  rw [this]; rfl
def JrPost (w : World) (P : List (List UInt8)) (e : Ending) (w' : World) : Prop := e = .returned (.tuple #[.string ⟨(jTxt P).toArray⟩, .bool (jOk P)]) ∧ Below w.heap.size w w'
theorem JrPost.no {w w' : World} {P : List (List UInt8)} (h : jOk P = false) (hb : Below w.heap.size w w') : JrPost w P (.returned (.tuple #[.string ⟨#[]⟩, .bool false])) w' := by
  refine ⟨?_, hb⟩
  unfold jTxt
  rw [h]; rfl
theorem all_take {P : List (List UInt8)} {p : List UInt8} {i : Nat} (hp : P[i]? = some p) (h : (P.take i).all noNl = true) (h2 : noNl p = true) : (P.take (i + 1)).all noNl = true := by
  rw [take_snocJ hp, List.all_append, h]
  simp [h2]

end Go.Proofs.YtmcmcppleikajaaDoor
