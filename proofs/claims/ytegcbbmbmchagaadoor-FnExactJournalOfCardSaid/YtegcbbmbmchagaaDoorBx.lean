/- An argument that is a slice of strings: opened. -/
import Derived.Test.YtegcbbmbmchagaaDoorBj
import Derived.SliceStrings
import Derived.ChangeSame
import Derived.OpenShut
namespace Go.Proofs.YtegcbbmbmchagaaDoor
open Go.RowKit Go.ChangeShapes Go.WideShapes
set_option linter.unusedVariables false
set_option linter.unusedSimpArgs false

theorem cell_spot {w : World} {a : Addr} {v : Value} (h : w.cell? a = some v) : a.spot = none ∧ a.block < w.heap.size := by
  unfold World.cell? at h
  split at h
  · rename_i c e f hb
    refine ⟨?_, (Array.getElem?_eq_some_iff.1 hb).1⟩
    split at h
    · exact absurd h (by simp)
    · rename_i hs; simpa using hs
  · exact absurd h (by simp)

section
variable {H : Type} {enc : TypeId × Value → H} {P : Program} {w : World} {base : Nat} {spare : Nat → Bool} {held : Bool}

/-- A slice of strings. -/
theorem open_strS {r : Reach} {b0 : Nat} {t e : TypeId} {v : Value} {d : DataW H} {ps : List MemPlace} (ht : P.underlying t = some (.slice e)) (he : P.underlying e = some .string) (hc : P.cellsOf e = 1) (hval : Value.okWide P w r b0 t v) (hd : DataW.Trod enc P w base spare held t v d ps) :
    ∃ xs : List ByteArray, SlS w v xs ∧ (∀ x ∈ xs, x.size ≤ 9223372036854775807) ∧ xs.length ≤ 9223372036854775807 := by
  obtain ⟨a0, n0, c0, rfl⟩ := okWide_slice ht hval
  obtain ⟨fuel, hf⟩ := hd
  rcases open_strings ht he hc hf with ⟨hcs, hx⟩ | ⟨a, len, cap, ss, hcs, _, hl, hm, hz, hx, hcell, hsz⟩
  · simp [Value.cells] at hcs
    obtain ⟨rfl, rfl, rfl⟩ := hcs
    exact ⟨[], ⟨none, 0, rfl, Or.inl rfl⟩, by simp, by simp⟩
  · simp [Value.cells] at hcs
    obtain ⟨rfl, rfl, rfl⟩ := hcs
    have hle : n0 ≤ ss.length := by rw [hz]; split <;> omega
    have hlen : (ss.take n0).length = n0 := by simp; omega
    refine ⟨ss.take n0, ⟨some a, c0, by rw [hlen], ?_⟩, fun x hx => hsz x (List.mem_of_mem_take hx), by unfold maxLen at hm; omega⟩
    rcases Nat.eq_zero_or_pos n0 with h0 | h0
    · left; rw [h0]; rfl
    · right
      have h1 := hcell 0 (by omega)
      obtain ⟨s1, s2⟩ := cell_spot h1
      obtain ⟨ab, ao, as_⟩ := a
      have hs : as_ = none := s1
      subst hs
      refine ⟨ab, ao, rfl, s2, fun i hi => ?_⟩
      rw [hlen] at hi
      have h2 := hcell i (by omega)
      have z : (⟨ab, ao, none⟩ : Addr).add i = ⟨ab, ao + i, none⟩ := by simp [Addr.add]; try omega
      rw [z] at h2
      rw [h2]
      have : (ss.take n0).getD i ⟨#[]⟩ = ss.getD i ByteArray.empty := by
        simp only [List.getD_eq_getElem?_getD, List.getElem?_take, if_pos hi]; rfl
      rw [this]
end

end Go.Proofs.YtegcbbmbmchagaaDoor
