/- The program's parts of a text between commas: impl.parted. -/
import Derived.Test.YtcppoadeelnphaaDoorCr
import Derived.Test.YtcppoadeelnphaaDoorCj
namespace Go.Proofs.YtcppoadeelnphaaDoor
open Go.RowKit
set_option maxRecDepth 100000
set_option linter.unusedVariables false
set_option linter.unusedSimpArgs false

/-- The parts of a text between commas; none, if it is the text of no items. -/
def prtL (t : List UInt8) : List (List UInt8) := if t = noneT then [] else cutL 44 t
theorem prt_mem_le {t : List UInt8} (p : List UInt8) (h : p ∈ prtL t) : p.length ≤ t.length := by
  unfold prtL at h
  split at h
  · cases h
  · exact cutL_mem_le t p h
theorem prt_count (t : List UInt8) : (prtL t).length ≤ t.length + 1 := by
  unfold prtL
  split
  · simp
  · exact cutL_count 44 t
theorem lstR_prt (t : List UInt8) : lstR t = if (prtL t).length ≤ 64 ∧ (prtL t).all (fun p => (valD p).2) = true then ((prtL t).map fun p => (valD p).1, true) else ([], false) := by
  unfold lstR prtL
  by_cases h : t = noneT
  · rw [if_pos h, if_pos h]; simp
  · rw [if_neg h, if_neg h]
theorem numR_prt (t : List UInt8) : numR t = if (prtL t).length ≤ 256 ∧ (prtL t).all (fun p => (valH p).2) = true then ((prtL t).map fun p => (valH p).1, true) else ([], false) := by
  unfold numR prtL
  by_cases h : t = noneT
  · rw [if_pos h, if_pos h]; simp
  · rw [if_neg h, if_neg h]
theorem OwnS.made (w : World) (P : List (List UInt8)) (hm : P.length ≤ maxLen) : OwnS (w.alloc (.cells (sCells P).toArray 9)) w.heap.size (.slice (some ⟨w.heap.size, 0, none⟩) P.length P.length) P :=
  ⟨by simp [sCells], .inr ⟨w.heap.size, P.length, (sCells P).toArray, rfl, Nat.le_refl _, heap_alloc_new w _, Nat.le_refl _, hm, by simp [sCells], by rw [List.take_of_length_le (by simp [sCells])]⟩⟩

set_option maxHeartbeats 2000000 in
theorem parted_any (w : World) (s : ByteArray) (m : Int) (hs : s.size ≤ 2000000) (hm : w.cell? ⟨0, 0, none⟩ = some (.int .i64 m)) :
    Calls Tryd.prog 44 #[.string s] w fun e w' => ∃ v, e = .returned v ∧ OwnS w' w.heap.size v (prtL s.data.toList) ∧ Below w.heap.size w w' := by
  by_cases hno : s.data.toList = noneT
  · have hr : prtL s.data.toList = [] := by unfold prtL; rw [if_pos hno]
    rw [hr]
    have hs2 : s = ⟨noneT.toArray⟩ := ba_of hno
    subst hs2
    clear hr hno hs hm
    go_enter Tryd.func44, Tryd.ntmps44
    go_wp2_with fail
    go_ret
    exact ⟨_, rfl, World.ownsRow_nil w _ _ _, Below.refl _ _⟩
  · have hne : (s.toList == [110, 111, 110, 101]) = false := by
      rw [beq_eq_false_iff_ne, ba_toList]; exact hno
    have hr : prtL s.data.toList = cutL 44 s.data.toList := by unfold prtL; rw [if_neg hno]
    have hspl := Tryd.strings_Split s ⟨#[44]⟩ m w (by omega) hm (Nat.le_refl _)
    rw [splitB_cutL] at hspl
    have hcnt : Lib.countB s ⟨#[44]⟩ + 1 = (cutL 44 s.data.toList).length := by
      rw [cutL_len]
      have : Lib.countB s ⟨#[44]⟩ = s.data.toList.count 44 := Lib.count_one 44 _
      omega
    rw [hcnt] at hspl
    rw [hr]
    have hc := cutL_count 44 s.data.toList
    rw [ba_size] at hc
    obtain ⟨P, hP⟩ : ∃ P, P = cutL 44 s.data.toList := ⟨_, rfl⟩
    rw [← hP] at hspl hc ⊢
    have HM := Lib.hid (OwnS.made w P (by unfold maxLen; omega))
    have hb : Below w.heap.size w (w.alloc (.cells (sCells P).toArray 9)) := (Below.refl _ _).alloc (Nat.le_refl _) _
    have HB := Lib.hid hb
    have e : (P.map fun l => (⟨l.toArray⟩ : ByteArray)).map Value.string = sCells P := by rw [List.map_map]; rfl
    rw [e] at hspl
    have KS := Lib.hid hspl
    clear e
    clear hspl hr hcnt hc hP hno hs hm hb
    go_enter Tryd.func44, Tryd.ntmps44
    go_wp2_with fail
    refine KS.out.mono ?_
    rintro e w1 ⟨rfl, rfl⟩
    go_wp2_with fail
    go_ret
    exact ⟨_, rfl, HM.out, HB.out⟩

end Go.Proofs.YtcppoadeelnphaaDoor
