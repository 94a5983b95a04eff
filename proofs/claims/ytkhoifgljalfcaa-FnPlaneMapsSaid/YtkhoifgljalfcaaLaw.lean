/- What the laws on bytes have in common: lengths and choices. -/
import Derived.Test.YtkhoifgljalfcaaSrc
namespace Go.Proofs.Ytkhoifgljalfcaa
open Go.RowKit
set_option maxRecDepth 100000
set_option linter.unusedVariables false

theorem byte_of_wf {z : Int} (h : (Lit.int .u8 z).wf = true) : 0 ≤ z ∧ z ≤ 255 := by
  simpa [Lit.wf, IntKind.min, IntKind.max, IntKind.signed, IntKind.bits] using h

/-- What the frame of a law tells of a slice of bytes. -/
theorem bytesIn_of_row {w : World} {a : Option Addr} {len cap : Nat} {zs : List Int} (h : (a = none ∧ len = 0 ∧ cap = 0 ∧ zs = []) ∨
    ∃ x, a = some x ∧ len ≤ cap ∧ cap ≤ maxLen ∧ zs.length = cap ∧ (∀ i, i < zs.length → w.cell? (x.add i) = some (.int .u8 (zs.getD i 0))) ∧ ∀ n ∈ zs, (Lit.int .u8 n).wf = true) (hl : len ≤ 1048576) : BytesIn w a len := by
  refine ⟨by omega, ?_⟩
  rcases h with ⟨_, h0, _, _⟩ | ⟨x, hx, h1, h2, h3, h4, h5⟩
  · exact .inl h0
  · by_cases h0 : len = 0
    · exact .inl h0
    · right
      obtain ⟨b, off, spot⟩ := x
      have c0 := h4 0 (by omega)
      have hs : spot = none := by have := World.cell?_spot c0; simpa [Addr.add] using this
      subst hs
      refine ⟨b, off, hx, ?_, fun i hi => ?_⟩
      · have := World.block_lt_of_cell? w _ c0
        simpa [Addr.add] using this
      · have ci := h4 i (by omega)
        refine ⟨zs.getD i 0, ?_, ?_⟩
        · by_cases hi0 : i = 0
          · subst hi0; simpa [Addr.add] using ci
          · simpa [Addr.add, hi0] using ci
        · have hz := h5 (zs.getD i 0) (by rw [List.getD_eq_getElem?_getD, List.getElem?_eq_getElem (by omega)]; exact List.getElem_mem _)
          exact byte_of_wf hz

theorem len_of_row {w : World} {a : Option Addr} {len cap : Nat} {zs : List Int} (h : (a = none ∧ len = 0 ∧ cap = 0 ∧ zs = []) ∨
    ∃ x, a = some x ∧ len ≤ cap ∧ cap ≤ maxLen ∧ zs.length = cap ∧ (∀ i, i < zs.length → w.cell? (x.add i) = some (.int .u8 (zs.getD i 0))) ∧ ∀ n ∈ zs, (Lit.int .u8 n).wf = true) : len ≤ 9223372036854775807 := by
  rcases h with ⟨_, h0, _, _⟩ | ⟨x, hx, h1, h2, h3, h4, h5⟩
  · omega
  · unfold maxLen at h2; omega

theorem b10Long_no (w : World) (a0 a1 : Option Addr) (l0 c0 l1 c1 : Nat) (h0 : l0 ≤ 1048576) (h1 : l1 ≤ 1048576) :
    Calls Try.prog 7 #[.slice a0 l0 c0, .slice a1 l1 c1] w fun e w' => e = .returned (.bool false) ∧ w = w' := by
  go_enter Try.func7, Try.ntmps7
  go_wp2
  all_goals (go_ret; simp [*]; try omega)

theorem b10Long_yes (w : World) (a0 a1 : Option Addr) (l0 c0 l1 c1 : Nat) (m0 : l0 ≤ 9223372036854775807) (m1 : l1 ≤ 9223372036854775807) (h : ¬ (l0 ≤ 1048576 ∧ l1 ≤ 1048576)) :
    Calls Try.prog 7 #[.slice a0 l0 c0, .slice a1 l1 c1] w fun e w' => e = .returned (.bool true) ∧ w = w' := by
  by_cases h0 : l0 ≤ 1048576
  · have h1 : ¬ l1 ≤ 1048576 := fun h1 => h ⟨h0, h1⟩
    clear h
    go_enter Try.func7, Try.ntmps7
    go_wp2
    all_goals (go_ret; simp [*]; try omega)
  · clear h
    go_enter Try.func7, Try.ntmps7
    go_wp2
    all_goals (go_ret; simp [*]; try omega)

end Go.Proofs.Ytkhoifgljalfcaa
