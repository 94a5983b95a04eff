/- Finite numbers; slices of integers of the call's own. -/
import Derived.Test.YtkhoifgljalfcaaSame
import Derived.Test.YtkhoifgljalfcaaGen
import Derived.Test.YtkhoifgljalfcaaQf
import Derived.Laws.OwnMore
namespace Go.Proofs.Ytkhoifgljalfcaa
open Go.RowKit
set_option maxRecDepth 100000
set_option linter.unusedVariables false
set_option linter.unusedSimpArgs false

theorem SlF.size2 {w : World} {a : Option Addr} {n cap : Nat} {xs : List Nat} (h : SlF w (.slice a n cap) xs) : xs.length = n ∧ n ≤ cap ∧ cap ≤ 9223372036854775807 := by
  obtain ⟨a', c', e, h1, h2, h3⟩ := h.1
  simp only [Value.slice.injEq, List.length_map] at e h1
  omega
theorem below_of_grown2 {w wr : World} (h : w.grownBy wr none) : Below w.heap.size w wr := ⟨h.os, h.tape, h.output, h.size, fun k hk => h.block k hk (by simp)⟩

theorem finite1_any (b : Nat) (w : World) : Calls Try.prog 91 #[.float .f32 b] w fun e w' => e = .returned (.bool (!fin32 b)) ∧ ∃ n, w' = w.drewN n := by
  go_enter Try.func91, Try.ntmps91
  go_wp2_with fail
  refine (isFinite_any _ _).mono ?_
  rintro e w1 ⟨rfl, n, rfl⟩
  go_wp2
  go_ret
  exact ⟨rfl, n, rfl⟩

theorem indexFin_none (w : World) (b off n cap : Nat) (bs : List Nat) (h : SlF w (.slice (some ⟨b, off, none⟩) n cap) bs) (hf : ∀ x ∈ bs, fin32 x = true) :
    Calls Try.prog 113 #[.slice (some ⟨b, off, none⟩) n cap, .func (.func 91) #[] #[]] w fun e w' => e = .returned (.int .i64 (-1)) ∧ ∃ q, w' = w.drewN q := by
  obtain ⟨s1, s2, s3⟩ := h.size2
  have hz : ∀ i, i < n → w.cell? ⟨b, off + i, none⟩ = some (.float .f32 (bs.getD i 0)) ∧ fin32 (bs.getD i 0) = true := fun i hi => by
    have := (h.cellAt i (by omega)).1
    refine ⟨this, ?_⟩
    rw [List.getD_eq_getElem?_getD, List.getElem?_eq_getElem (by omega)]
    exact hf _ (List.getElem_mem _)
  clear h hf s1
  go_enter Try.func113, Try.ntmps113
  go_wp2_with fail
  go_loopw [8] (fun v8 wr => ∃ i q : Nat, v8 = .int .i64 i ∧ i ≤ n ∧ wr = w.drewN q) (fun v8 _ => n - (intOf v8).toNat)
  case atStart => exact ⟨0, 0, rfl, Nat.zero_le _, rfl⟩
  case round =>
    obtain ⟨i, q, rfl, hi, rfl⟩ := hrel
    by_cases hlt : i < n
    · obtain ⟨k1, k2⟩ := hz i hlt
      have k3 : ∀ q, (w.drewN q).cell? ⟨b, off + i, none⟩ = some (.float .f32 (bs.getD i 0)) := fun _ => k1
      generalize bs.getD i 0 = x at *
      clear hz k1
      go_wp2_with fail
      refine (finite1_any _ _).mono ?_
      rw [k2]
      rintro e w1 ⟨rfl, m, rfl⟩
      go_wp2
      go_roundw
      case rel => exact ⟨i + 1, _, by go_num, by omega, rfl⟩
      case measure => simp [intOf]; omega
    · have : i = n := by omega
      subst this
      clear hz
      go_wp2
      go_ret
      exact ⟨rfl, _, rfl⟩

theorem finite_yes (w : World) (b off n cap : Nat) (bs : List Nat) (h : SlF w (.slice (some ⟨b, off, none⟩) n cap) bs) (hf : ∀ x ∈ bs, fin32 x = true) :
    Calls Try.prog 45 #[.slice (some ⟨b, off, none⟩) n cap] w fun e w' => e = .returned (.bool true) ∧ ∃ q, w' = w.drewN q := by
  have K : Calls Try.prog 90 #[.slice (some ⟨b, off, none⟩) n cap, .func (.func 91) #[] #[]] w fun e w' => e = .returned (.bool false) ∧ ∃ q, w' = w.drewN q := by
    go_enter Try.func90, Try.ntmps90
    go_wp2_with fail
    refine (indexFin_none w b off n cap bs h hf).mono ?_
    rintro e w1 ⟨rfl, m, rfl⟩
    go_wp2
    go_ret
    exact ⟨rfl, m, rfl⟩
  have K := Lib.hid K
  go_enter Try.func45, Try.ntmps45
  go_wp2_with fail
  refine K.out.mono ?_
  rintro e w1 ⟨rfl, m, rfl⟩
  go_wp2
  go_ret
  exact ⟨rfl, m, rfl⟩

theorem info_i64 : (Try.prog.info? 2).map (fun i => (i.zero, i.size, i.bytes)) = some (some (.int .i64 0), 1, 8) := by kernel_rfl
/-- A slice of integers of the call's own. -/
def OwnI (w : World) (B : Nat) (v : Value) (ks : List Int) : Prop := w.ownsRow B 2 1 v ks.length (ks.map (Value.int .i64))
theorem OwnI.cellAt {w : World} {B g n cap : Nat} {ks : List Int} (h : OwnI w B (.slice (some ⟨g, 0, none⟩) n cap) ks) (i : Nat) (hi : i < ks.length) : w.cell? ⟨g, i, none⟩ = some (.int .i64 (ks.getD i 0)) := by
  have := World.ownsRow.cells (g := g) h rfl i (Value.int .i64 (ks.getD i 0)) (by rw [List.getElem?_map, List.getElem?_eq_getElem hi, List.getD_eq_getElem?_getD, List.getElem?_eq_getElem hi]; rfl)
  by_cases h0 : i = 0
  · subst h0; simpa [Addr.add] using this
  · simpa [Addr.add, h0] using this
theorem OwnI.len {w : World} {B g n cap : Nat} {ks : List Int} (h : OwnI w B (.slice (some ⟨g, 0, none⟩) n cap) ks) : ks.length = n ∧ n ≤ cap ∧ cap ≤ maxLen := by
  rcases h.2 with ⟨h1, _⟩ | ⟨g', cap', cur, h1, h2, h3, h4, h5, h6⟩
  · cases h1
  · simp only [Value.slice.injEq] at h1
    omega
theorem OwnI.free {w : World} {B g n cap : Nat} {ks : List Int} (h : OwnI w B (.slice (some ⟨g, 0, none⟩) n cap) ks) (i : Nat) : w.frozen? ⟨g, i, none⟩ = false := World.ownsRow.frozenAt (n := n) (by have := h; unfold OwnI at this; rw [h.len.1] at this; exact this) i
theorem OwnI.put {w : World} {B g n cap : Nat} {ks : List Int} (h : OwnI w B (.slice (some ⟨g, 0, none⟩) n cap) ks) (i : Nat) (z : Int) : OwnI (w.setCell ⟨g, i, none⟩ (.int .i64 z)) B (.slice (some ⟨g, 0, none⟩) n cap) (ks.set i z) := by
  have hn := h.len.1
  subst hn
  have := (World.ownsRow.stored h i (.int .i64 z)).1
  unfold OwnI
  simpa [List.map_set] using this
theorem OwnI.grown {w w' : World} {B : Nat} {v : Value} {ks : List Int} {r : Option Nat} (h : OwnI w B v ks) (hg : w.grownBy w' r) (hne : v.ownBlock = none ∨ v.ownBlock ≠ r) : OwnI w' B v ks := World.ownsRow.kept h hg hne
theorem OwnI.below {w w' : World} {B : Nat} {v : Value} {ks : List Int} (h : OwnI w B v ks) (hb : Below w.heap.size w w') : OwnI w' B v ks := h.grown (grown_below hb none) (by cases v.ownBlock <;> simp)
theorem OwnI.lt {w : World} {B : Nat} {v : Value} {ks : List Int} (h : OwnI w B v ks) {k : Nat} (hk : v.ownBlock = some k) : B ≤ k ∧ k < w.heap.size := World.ownsRow.lt h k hk

/-- A slice of zeros made anew. -/
theorem makeI (w : World) (n B : Nat) (hB : B ≤ w.heap.size) (hn : n ≤ 1000) :
    ∃ w', (Instr.makeSlice 47 (.int .i64 (n : Int)) (.int .i64 (n : Int))).run Try.prog w = .ok (.slice (some ⟨w.heap.size, 0, none⟩) n n) w' ∧ OwnI w' B (.slice (some ⟨w.heap.size, 0, none⟩) n n) (List.replicate n 0) ∧ Below w.heap.size w w' ∧ w.heap.size < w'.heap.size := by
  obtain ⟨i0, hi0, hz0, hz1, hz2⟩ := info_parts info_i64
  obtain ⟨w', h1, h2, h3⟩ := run_makeSlice_full (P := Try.prog) (w := w) B 47 2 i0 (.int .i64 0) 1 (by rfl) hi0 hz0 hz1 .i64 .i64 n (by omega) (by rw [hz2]; omega) (by unfold maxLen; omega) hB
  have h4 : (madeCells (Value.cells (.int .i64 0)) (n * 1)).toList = (List.replicate n (0 : Int)).map (Value.int .i64) := by
    rw [Nat.mul_one, List.map_replicate]; exact toList_madeCells_one _ _
  refine ⟨w', h1, ?_, below_of_grown2 h3, ?_⟩
  · unfold OwnI; rw [List.length_replicate, ← h4]; exact h2
  · exact (World.ownsRow.lt h2 w.heap.size rfl).2

end Go.Proofs.Ytkhoifgljalfcaa
