/- The exact laws' functions on lists of strings: eqStringS, markText, markStringS, heldStringS. -/
import Derived.Test.YtmcmcppleikajaaDoorBc
import Derived.Test.YtmcmcppleikajaaDoorDc
import Derived.Lib.ItoaMem
import Derived.Lib.ItoaLen
namespace Go.Proofs.YtmcmcppleikajaaDoor
open Go.RowKit
set_option maxRecDepth 100000
set_option linter.unusedVariables false
set_option linter.unusedSimpArgs false

/-- A slice that reads as strings. -/
def SV (w : World) (v : Value) (P : List (List UInt8)) : Prop := (∃ g c, v = .slice (some ⟨g, 0, none⟩) P.length c ∧ StrAt w g P) ∨ (∃ a c, v = .slice a 0 c ∧ P = [])
theorem OwnS.form {w : World} {B : Nat} {v : Value} {P : List (List UInt8)} (h : OwnS w B v P) : (v = .slice none 0 0 ∧ P = []) ∨ ∃ g c, v = .slice (some ⟨g, 0, none⟩) P.length c := by
  rcases h.2 with ⟨h1, h2⟩ | ⟨g, cap, cur, h1, _⟩
  · exact .inl ⟨h1, List.length_eq_zero_iff.1 h2⟩
  · exact .inr ⟨g, cap, h1⟩
theorem OwnS.sv {w : World} {B : Nat} {v : Value} {P : List (List UInt8)} (h : OwnS w B v P) : SV w v P := by
  rcases h.form with ⟨rfl, rfl⟩ | ⟨g, c, rfl⟩
  · exact .inr ⟨none, 0, rfl, rfl⟩
  · exact .inl ⟨g, c, rfl, h.strAt⟩
theorem OwnS.nil (w : World) (B : Nat) : OwnS w B (.slice none 0 0) [] := World.ownsRow_nil w B _ _

/-- The text of a mark. -/
def MT (k : Nat) : List UInt8 := 109 :: Lib.decDigits k
def mkS (k n : Nat) : List (List UInt8) := (List.range n).map fun i => MT (k + i)
theorem mkS_len (k n : Nat) : (mkS k n).length = n := by simp [mkS]
theorem mkS_get {k n i : Nat} (h : i < n) : (mkS k n).getD i [] = MT (k + i) := by
  unfold mkS
  rw [List.getD_eq_getElem?_getD, List.getElem?_map, List.getElem?_range h]; rfl

theorem OwnS.put {w : World} {B g n cap : Nat} {P : List (List UInt8)} (h : OwnS w B (.slice (some ⟨g, 0, none⟩) n cap) P) (i : Nat) (x : List UInt8) : OwnS (w.setCell ⟨g, i, none⟩ (.string ⟨x.toArray⟩)) B (.slice (some ⟨g, 0, none⟩) n cap) (P.set i x) := by
  have hn : P.length = n := by
    rcases h.2 with ⟨h1, _⟩ | ⟨g', cap', cur, h1, _⟩
    · simp at h1
    · simp only [Value.slice.injEq] at h1; omega
  subst hn
  have h2 := (World.ownsRow.stored h i (.string ⟨x.toArray⟩)).1
  unfold OwnS
  have e : sCells (P.set i x) = (sCells P).set i (.string ⟨x.toArray⟩) := by unfold sCells; rw [List.map_set]
  rw [e, List.length_set]
  simpa using h2
theorem grownS_trans {w1 w2 w3 : World} {r : Option Nat} (h : w1.grownBy w2 r) (h' : w2.grownBy w3 r) : w1.grownBy w3 r :=
  ⟨h'.os.trans h.os, h'.tape.trans h.tape, h'.output.trans h.output, Nat.le_trans h.size h'.size, fun k hk hn => (h'.block k (Nat.lt_of_lt_of_le hk h.size) hn).trans (h.block k hk hn)⟩
theorem grownS_self (w : World) (r : Option Nat) : w.grownBy w r := ⟨rfl, rfl, rfl, Nat.le_refl _, fun _ _ _ => rfl⟩

end Go.Proofs.YtmcmcppleikajaaDoor
