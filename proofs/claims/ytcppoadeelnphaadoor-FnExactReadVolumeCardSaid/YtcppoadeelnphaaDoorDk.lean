/- Copies of slices of numbers, flat maps, desks: the exact laws' functions on pictures, maps, desks. -/
import Derived.Test.YtcppoadeelnphaaDoorEx
import Derived.Lib.BufferMore
namespace Go.Proofs.YtcppoadeelnphaaDoor
open Go.RowKit Ieee
set_option maxRecDepth 100000
set_option linter.unusedVariables false
set_option linter.unusedSimpArgs false
set_option maxHeartbeats 1000000

theorem info_f32d : (Tryd.prog.info? 64).map (fun i => (i.zero, i.size, i.bytes)) = some (some (.float .f32 0), 1, 4) := by kernel_rfl

theorem bcell2 {W w1 : World} (hb : Below W.heap.size W w1) : (∀ b o, b < W.heap.size → w1.cell? ⟨b, o, none⟩ = W.cell? ⟨b, o, none⟩) ∧ (∀ b o, b < W.heap.size → w1.frozen? ⟨b, o, none⟩ = W.frozen? ⟨b, o, none⟩) :=
  ⟨fun b o h => hb.cell (p := ⟨b, o, none⟩) h, fun b o h => hb.frozen (p := ⟨b, o, none⟩) h⟩

/-- A slice of numbers made anew. -/
def MakesF32s (w : World) (bs : List Nat) (e : Ending) (w' : World) : Prop := ∃ a c, e = .returned (.slice a bs.length c) ∧ OwnF w' w.heap.size (.slice a bs.length c) bs ∧ Below w.heap.size w w'

theorem news_of {w : World} {b off cap n : Nat} {bs : List Nat} (h : SlF w (.slice (some ⟨b, off, none⟩) n cap) bs) (o : Obj) : ∀ j u, (bs.map (Value.float .f32))[j]? = some u → (w.alloc o).cell? ((⟨b, off, none⟩ : Addr).add j) = some u := by
  intro j u hu
  have hb := SlF.below h ((Below.refl w.heap.size w).alloc (Nat.le_refl _) o)
  rw [List.getElem?_map] at hu
  cases hj : bs[j]? with
  | none => rw [hj] at hu; simp at hu
  | some x =>
    rw [hj] at hu
    have hlt : j < bs.length := by
      rcases Nat.lt_or_ge j bs.length with h1 | h1
      · exact h1
      · rw [List.getElem?_eq_none h1] at hj; cases hj
    have := (cellAt2 hb j hlt).1
    have hadd : (⟨b, off, none⟩ : Addr).add j = ⟨b, off + j, none⟩ := by unfold Addr.add; split <;> simp_all
    rw [hadd, this]
    rw [List.getD_eq_getElem?_getD, hj]
    simpa using hu

theorem grown_of_alloc {w w2 : World} {o : Obj} (h : (w.alloc o).grownBy w2 (some w.heap.size)) : Below w.heap.size w w2 :=
  ((Below.refl w.heap.size w).alloc (Nat.le_refl _) o).grown h (by simp) (fun k hk => by injection hk with e; omega)

theorem ownF_lit {w w2 : World} {gg cap : Nat} {bs : List Nat} (h : w2.ownsRow w.heap.size 64 1 (.slice (some ⟨gg, 0, none⟩) (0 + bs.length) cap) (0 + bs.length) ([] ++ bs.map (Value.float .f32))) (hp : ∀ b ∈ bs, b < 4294967296) : OwnF w2 w.heap.size (.slice (some ⟨gg, 0, none⟩) bs.length cap) bs := by
  refine ⟨?_, hp⟩
  simpa using h

/-- A picture (or a map) made anew. -/
def MakesRow (w : World) (wd hi : Int) (bs : List Nat) (e : Ending) (w' : World) : Prop := ∃ a c, e = .returned (.agg #[.int .i64 wd, .int .i64 hi, .slice a bs.length c]) ∧ OwnF w' w.heap.size (.slice a bs.length c) bs ∧ Below w.heap.size w w'

theorem below_two2 (w : World) (o1 o2 : Obj) : Below w.heap.size w ((w.alloc o1).alloc o2) := ((Below.refl _ _).alloc (Nat.le_refl _) _).alloc (by simp) _

end Go.Proofs.YtcppoadeelnphaaDoor
