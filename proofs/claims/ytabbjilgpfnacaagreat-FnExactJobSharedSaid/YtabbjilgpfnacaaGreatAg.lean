/- Arguments that are structs of whole numbers and of a slice of float32 numbers: opened. -/
import Derived.Test.YtabbjilgpfnacaaGreatMem
import Derived.Deep.Slices
import Derived.ChangeSame
import Derived.ProofKit
namespace Go.Proofs.YtabbjilgpfnacaaGreat
open Go.RowKit Go.ChangeShapes Go.WideShapes Go.Deep
set_option linter.unusedVariables false
set_option linter.unusedSimpArgs false

theorem cell_spot {w : World} {a : Addr} {v : Value} (h : w.cell? a = some v) : a.spot = none ∧ a.block < w.heap.size := by
  unfold World.cell? at h
  split at h
  · rename_i c e f hb
    refine ⟨?_, (Array.getElem?_eq_some_iff.1 hb).1⟩
    split at h
    · exact absurd h (by simp)
    · rename_i hs; simpa using hs
  · exact absurd h (by simp)

section
variable {H : Type} {enc : TypeId × Value → H} {P : Program} {w : World} {base : Nat} {spare : Nat → Bool} {held : Bool}
theorem trod_f32 {t : TypeId} {fuel : Nat} {cs : List Value} {x : DataW H × List MemPlace} (ht : P.underlying t = some (.float .f32)) (h : DataW.trod enc P w base spare held fuel t cs = some x) : ∃ b, cs = [.float .f32 b] ∧ b < 4294967296 := by
  cases fuel with
  | zero => simp [DataW.trod] at h
  | succ n =>
    unfold DataW.trod at h
    rw [ht] at h
    split at h
    all_goals simp_all
    rename_i k k' b hk
    subst hk
    have h2 := h.1.2
    simpa [Lit.wf] using h2

/-- A slice of numbers. -/
theorem open_f32s {t e : TypeId} {fuel : Nat} {cs : List Value} {x : DataW H × List MemPlace} (ht : P.underlying t = some (.slice e)) (he : P.underlying e = some (.float .f32)) (hc : P.cellsOf e = 1) (h : DataW.trod enc P w base spare held fuel t cs = some x) :
    ∃ a n c bs, cs = [.slice a n c] ∧ bs.length = n ∧ SlF w (.slice a n c) bs := by
  rcases open_slice1 ht hc h with ⟨rfl, _⟩ | ⟨a, len, cap, m, n, V, D, Pl, rfl, hb, hl, hm, hmm, hx, hV⟩
  · exact ⟨none, 0, 0, [], rfl, rfl, Sl.nil w, by simp⟩
  · have hle : len ≤ m := by rw [hmm]; split <;> omega
    obtain ⟨W, hW⟩ : ∃ W : Nat → Nat, ∀ i, i < len → V i = .float .f32 (W i) ∧ W i < 4294967296 := by
      have : ∀ i, ∃ b : Nat, i < len → V i = .float .f32 b ∧ b < 4294967296 := fun i => by
        by_cases hi : i < len
        · obtain ⟨b, hb1, hb2⟩ := trod_f32 he (hV i (by omega)).2
          exact ⟨b, fun _ => ⟨by injection hb1, hb2⟩⟩
        · exact ⟨0, fun h => absurd h hi⟩
      exact ⟨fun i => (this i).choose, fun i hi => (this i).choose_spec hi⟩
    have hlen : ((List.range len).map W).length = len := by simp
    refine ⟨some a, len, cap, (List.range len).map W, rfl, hlen, ⟨some a, cap, by simp, by simpa using hl, by unfold maxLen at hm; omega, ?_⟩, fun b hb' => ?_⟩
    · rcases Nat.eq_zero_or_pos len with h0 | h0
      · left; rw [h0]; rfl
      · right
        have h1 := (hV 0 (by omega)).1
        obtain ⟨s1, s2⟩ := cell_spot h1
        obtain ⟨ab, ao, as_⟩ := a
        have hs : as_ = none := s1
        subst hs
        refine ⟨ab, ao, rfl, s2, fun i hi => ?_⟩
        have hi' : i < len := by simpa using hi
        have h2 := (hV i (by omega)).1
        rw [(hW i hi').1] at h2
        have z : (⟨ab, ao, none⟩ : Addr).add i = ⟨ab, ao + i, none⟩ := by simp [Addr.add]; try omega
        rw [z] at h2
        rw [h2]; simp
    · obtain ⟨i, hi, rfl⟩ := List.mem_map.1 hb'
      exact (hW i (List.mem_range.1 hi)).2

/-- A struct of two whole numbers and a slice of numbers, at its cells. -/
theorem pic_cells {t e : TypeId} {f0 f1 f2 : Field} {fuel : Nat} {cs : List Value} {x : DataW H × List MemPlace} (hs : P.underlying t = some (.struct #[f0, f1, f2])) (o : f0.offset = 0 ∧ f1.offset = 1 ∧ f2.offset = 2) (hc : P.cellsOf t = 3 ∧ P.cellsOf f0.type = 1 ∧ P.cellsOf f1.type = 1 ∧ P.cellsOf f2.type = 1)
    (k0 : P.underlying f0.type = some (.int .i64)) (k1 : P.underlying f1.type = some (.int .i64)) (k2 : P.underlying f2.type = some (.slice e)) (ke : P.underlying e = some (.float .f32)) (kc : P.cellsOf e = 1)
    (h : DataW.trod enc P w base spare held fuel t cs = some x) :
    ∃ (a b : Int) (s : Option Addr) (n c : Nat) (bs : List Nat), cs = [.int .i64 a, .int .i64 b, .slice s n c] ∧ bs.length = n ∧ SlF w (.slice s n c) bs ∧ (Lit.int .i64 a).wf = true ∧ (Lit.int .i64 b).wf = true := by
  obtain ⟨xs, n, -, -, hlen, hxl, hg⟩ := DataW.trod_struct hs h
  rw [hc.1] at hlen
  match cs, hlen with
  | [c0, c1, c2], _ =>
    match xs, hxl with
    | [y0, y1, y2], _ =>
      have g0 := hg 0 f0 rfl
      have g1 := hg 1 f1 rfl
      have g2 := hg 2 f2 rfl
      rw [o.1, hc.2.1] at g0
      rw [o.2.1, hc.2.2.1] at g1
      rw [o.2.2, hc.2.2.2] at g2
      obtain ⟨a, ha, -, hwa⟩ := DataW.trod_int k0 g0
      obtain ⟨b, hb, -, hwb⟩ := DataW.trod_int k1 g1
      obtain ⟨s, m, c, bs, hcs, hbl, hsl⟩ := open_f32s k2 ke kc g2
      simp at ha hb hcs
      subst ha hb hcs
      exact ⟨a, b, s, m, c, bs, rfl, hbl, hsl, hwa, hwb⟩
end

end Go.Proofs.YtabbjilgpfnacaaGreat
