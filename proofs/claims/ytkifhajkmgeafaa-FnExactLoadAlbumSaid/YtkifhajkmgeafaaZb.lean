/- Albums: what is recovered of what is cut or bent. No program in sight. -/
import Derived.Test.YtkifhajkmgeafaaZa
namespace Go.Proofs.Ytkifhajkmgeafaa
open Go.RowKit
set_option maxRecDepth 100000
set_option linter.unusedVariables false
set_option linter.unusedSimpArgs false

theorem recS_end {s : ByteArray} {a : Nat} (h : s.size < a + 6) : recS s a = false := by
  unfold recS okS headS
  have : ¬ 6 ≤ (s.extract a s.size).size := by rw [ByteArray.size_extract]; omega
  simp only [decide_eq_false this, Bool.false_and]
theorem recG_mono (s : ByteArray) (k : Nat) : ∀ j, (recG s k).1.length ≤ (recG s (k + j)).1.length ∧ (recG s k).2 ≤ (recG s (k + j)).2
  | 0 => ⟨Nat.le_refl _, Nat.le_refl _⟩
  | j + 1 => by
    have ih := recG_mono s k j
    show _ ≤ (recG s (k + j + 1)).1.length ∧ _ ≤ (recG s (k + j + 1)).2
    rw [recG]
    split
    · dsimp only; unfold nxtS; rw [List.length_append]; dsimp only; omega
    · exact ih
theorem recG_mono' (s : ByteArray) {k m : Nat} (h : k ≤ m) : (recG s k).1.length ≤ (recG s m).1.length ∧ (recG s k).2 ≤ (recG s m).2 := by
  have := recG_mono s k (m - k)
  rwa [show k + (m - k) = m by omega] at this
/-- The album of a text. -/
def albS (ps : List PicB) : ByteArray := ⟨(albL ps).toArray⟩
theorem albS_list (ps : List PicB) : (albS ps).data.toList = albL ps := rfl
theorem albS_size (ps : List PicB) : (albS ps).size = (albL ps).length := by rw [← ba_size, albS_list]
theorem recG_whole {ps : List PicB} (hok : ∀ p ∈ ps, p.ok) (m : Nat) (hm : ps.length ≤ m) : Sames (recG (albS ps) m).1 ps ∧ (recG (albS ps) m).2 = (albL ps).length := by
  have h := recG_all (albS ps) ps hok ⟨[], by rw [albS_list]; simp⟩
  have h2 := recG_stop (s := albS ps) hm (fun _ => recS_end (by rw [h.2, albS_size]; omega))
  rw [h2]; exact h
/-- Of a text that is cut. -/
theorem recG_cut {ps : List PicB} {t : ByteArray} {a m : Nat} (hok : ∀ p ∈ ps, p.ok) (hps : ps.length ≤ m) (ha : a ≤ (albL ps).length) (ht : t.data.toList = (albL ps).take a) :
    albL (recG t m).1 = (albL ps).take (recG t m).2 ∧ (recG t m).2 ≤ a ∧ (recG t m).1.length ≤ ps.length ∧ ((recG t m).1.length < ps.length → a < (albL (ps.take ((recG t m).1.length + 1))).length) ∧ (a = (albL ps).length → (recG t m).2 = a) := by
  obtain ⟨s1, s2, s3⟩ := recG_sound t m
  have hts : t.size = a := by rw [← ba_size, ht, List.length_take]; omega
  have e1 : albL (recG t m).1 = (albL ps).take (recG t m).2 := by rw [← s1, ht, List.take_take, Nat.min_eq_left (by omega)]
  have hle : (recG t m).1.length ≤ ps.length := by
    have h := recG_all (albS ps) (recG t m).1 s3 ⟨(albL ps).drop (recG t m).2, by rw [albS_list, e1, List.take_append_drop]⟩
    have h1 := h.1.length_eq
    have h2 := (recG_whole hok ps.length (Nat.le_refl _)).1.length_eq
    by_cases c : (recG t m).1.length ≤ ps.length
    · exact c
    · have h3 := (recG_whole hok (recG t m).1.length (by omega)).1.length_eq
      omega
  refine ⟨e1, by omega, hle, fun hlt => ?_, fun hh => ?_⟩
  · by_cases c : a < (albL (ps.take ((recG t m).1.length + 1))).length
    · exact c
    · exfalso
      obtain ⟨k, hk⟩ : ∃ k, k = (recG t m).1.length := ⟨_, rfl⟩
      rw [← hk] at hlt c
      obtain ⟨e, he⟩ := albL_pre (ps.take (k + 1)) (ps.drop (k + 1))
      rw [List.take_append_drop] at he
      have h := recG_all t (ps.take (k + 1)) (fun p hp => hok p (List.mem_of_mem_take hp)) ⟨e.take (a - (albL (ps.take (k + 1))).length), by
        rw [ht, he, List.take_append, List.take_of_length_le (by omega)]⟩
      have h1 := h.1.length_eq
      have hl : (ps.take (k + 1)).length = k + 1 := by rw [List.length_take]; omega
      rw [hl] at h1
      have := (recG_mono' t (k := k + 1) (m := m) (by omega)).1
      omega
  · have e : t = albS ps := by apply ByteArray.ext; apply Array.ext'; rw [ht, hh, List.take_length]; rfl
    rw [e, (recG_whole hok m hps).2, hh]
/-- Of a text of which a byte is another one. -/
theorem recG_bent {ps : List PicB} {t u : ByteArray} {a m : Nat} (hok : ∀ p ∈ ps, p.ok) (hps : ps.length ≤ m) (ha : a ≤ (albL ps).length) (ht : t.data.toList = (albL ps).take a) (hu : u.data.toList.take a = (albL ps).take a) :
    (recG t m).2 ≤ (recG u m).2 ∧ (recG u m).2 ≤ u.size ∧ albL (recG u m).1 = u.data.toList.take (recG u m).2 := by
  obtain ⟨c1, c2, c3, -, -⟩ := recG_cut hok hps ha ht
  obtain ⟨s1, s2, s3⟩ := recG_sound u m
  obtain ⟨-, -, t3⟩ := recG_sound t m
  have h := recG_all u (recG t m).1 t3 ⟨u.data.toList.drop (recG t m).2, by
    have : u.data.toList.take (recG t m).2 = albL (recG t m).1 := by
      rw [c1]
      have := congrArg (List.take (recG t m).2) hu
      rwa [List.take_take, List.take_take, Nat.min_eq_left c2] at this
    rw [← this, List.take_append_drop]⟩
  have h2 := (recG_mono' u (k := (recG t m).1.length) (m := m) (by omega)).2
  have h3 : (albL (recG t m).1).length = (recG t m).2 := by
    rw [c1, List.length_take]; omega
  exact ⟨by rw [← h3, ← h.2]; exact h2, s2, s1.symm⟩

end Go.Proofs.Ytkifhajkmgeafaa
