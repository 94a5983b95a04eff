/- The program's texts joined by commas: impl.joined. -/
import Derived.Test.YtjibghjongplpaaDoorTz
namespace Go.Proofs.YtjibghjongplpaaDoor
open Go.RowKit
set_option maxRecDepth 100000
set_option linter.unusedVariables false
set_option linter.unusedSimpArgs false

theorem joined_gen (w : World) (B : Nat) (v : Value) (ps : List (List UInt8)) (h : OwnS w B v ps) (hn : ps.length ≤ 2048) (h8 : (commaL ps).length ≤ 20000) :
    Calls Tryd.prog 34 #[v] w fun e w' => e = .returned (.string ⟨(commaL ps).toArray⟩) ∧ Below w.heap.size w w' := by
  by_cases h0 : ps = []
  · subst h0
    obtain ⟨sa, c, rfl⟩ : ∃ a c, v = .slice a 0 c := by
      rcases h.2 with ⟨q1, q2⟩ | ⟨g, cap, cur, e, r⟩
      · exact ⟨none, 0, q1⟩
      · exact ⟨_, _, e⟩
    go_enter Tryd.func34, Tryd.ntmps34
    go_wp2_with fail
    go_ret
    exact ⟨rfl, Below.refl _ _⟩
  · rcases h.2 with ⟨q1, q2⟩ | ⟨g, cap, cur, e, hg, hh, h3, h4, r⟩
    · exact absurd (List.length_eq_zero_iff.1 q2) h0
    · subst e
      have hpos : 0 < ps.length := by
        rcases Nat.eq_zero_or_pos ps.length with hz | hz
        · exact absurd (List.length_eq_zero_iff.1 hz) h0
        · exact hz
      have hlt := (h.lt (k := g) rfl).2
      have hcells : ∀ (j : Nat) (x : ByteArray), (ps.map fun p => (⟨p.toArray⟩ : ByteArray))[j]? = some x → w.cell? ⟨g, 0 + j, none⟩ = some (.string x) := fun j x hx => by
        have := World.ownsRow.cells h (g := g) rfl j (.string x) (by
          unfold sCells
          rw [List.getElem?_map] at hx ⊢
          cases hq : ps[j]? with
          | none => rw [hq] at hx; simp at hx
          | some p => rw [hq] at hx; simp at hx; rw [← hx]; rfl)
        have z : (⟨g, 0, none⟩ : Addr).add j = ⟨g, 0 + j, none⟩ := by simp [Addr.add]; try omega
        rw [z] at this; exact this
      have hmm : (ps.map fun p => (⟨p.toArray⟩ : ByteArray)).map (fun s => s.data.toList) = ps := by
        rw [List.map_map]
        conv => rhs; rw [← List.map_id ps]
        rfl
      have hjl : (Lib.join ps [44]).length ≤ 20000 := by
        rw [join_comma ps h0]; exact h8
      have KJ := Lib.hid (Tryd.strings_Join g 0 cap (ps.map fun p => (⟨p.toArray⟩ : ByteArray)) ⟨#[44]⟩ w hcells hlt (by rw [List.length_map]; omega) (by rw [List.length_map]; exact h3) (by rw [hmm]; exact Nat.le_trans hjl (by omega)))
      rw [hmm, List.length_map, show (⟨#[44]⟩ : ByteArray).data.toList = [44] from rfl, join_comma ps h0] at KJ
      have hd0 : ((ps.length : Int) == 0) = false := by simp; omega
      have hd1 : ¬ (ps.length : Int) = 0 := by omega
      generalize ps.length = n at *
      clear h hh r hcells hmm hjl h8 h0
      go_enter Tryd.func34, Tryd.ntmps34
      go_wp2_with fail
      refine KJ.out.mono ?_
      rintro e w' ⟨rfl, hb⟩
      go_wp2_with fail
      go_ret
      exact ⟨rfl, hb⟩

end Go.Proofs.YtjibghjongplpaaDoor
