/- LoadAlbum and RecoverAlbum of the program and of the reference, of any text. -/
import Derived.Test.YtkifhajkmgeafaaZs
namespace Go.Proofs.Ytkifhajkmgeafaa
open Go.RowKit
set_option maxRecDepth 100000
set_option linter.unusedVariables false
set_option linter.unusedSimpArgs false

set_option maxHeartbeats 2000000 in
theorem sload_yes (w : World) (s : ByteArray) (hs : s.size ≤ 1500000) (hall : (recG s 8).2 = s.size) :
    Calls Try.prog 22 #[.string s] w fun e w' => ∃ v xs, e = .returned (.tuple #[.agg #[v], .bool true]) ∧ OwnA w' w.heap.size v xs ∧ Sames (xs.map PicX.p) (recG s 8).1 ∧ Below w.heap.size w w' := by
  have hb0 : Below w.heap.size w (w.alloc (.cells #[.slice none 0 0] 26)) := (Below.refl _ _).alloc (Nat.le_refl _) _
  have hR := BoxN.last w #[.slice none 0 0] 26
  have K := Lib.hid (srec_any (w.alloc (.cells #[.slice none 0 0] 26)) s hs)
  have HR := Lib.hid (And.intro hb0 hR)
  have HA := Lib.hid hall
  clear hb0 hR hall
  go_enter Try.func22, Try.ntmps22
  go_wp2_with fail
  refine K.out.mono ?_
  rintro e w1 ⟨v, xs, rfl, ho, hsm, hb1⟩
  rw [HA.out]
  obtain ⟨W2, hW2⟩ : ∃ W, W = w1.alloc (.cells #[v] 26) := ⟨_, rfl⟩
  have ha : Below w1.heap.size w1 W2 := by rw [hW2]; exact (Below.refl _ _).alloc (Nat.le_refl _) _
  have hb2 := hb1.trans (ha.mono hb1.size)
  have hR2 := HR.out.2.below hb2
  have r0 : W2.cell? ⟨w.heap.size, 0, none⟩ = some (.slice none 0 0) := hR2.cell 0
  have rf : W2.frozen? ⟨w.heap.size, 0, none⟩ = false := hR2.free 0
  have hRl := hR2.lt
  have hQ : BoxN W2 w1.heap.size #[v] 26 := by rw [hW2]; exact BoxN.last w1 _ _
  have z0 : W2.cell? ⟨w1.heap.size, 0, none⟩ = some v := hQ.cell 0
  have ho2 := ho.below ha
  have hs1 : w.heap.size + 1 ≤ (w.alloc (.cells #[.slice none 0 0] 26)).heap.size := by simp
  obtain ⟨sa, sc, rfl, -, -⟩ := ho.form
  have HO := Lib.hid (And.intro ho2 (And.intro hsm (HR.out.1.trans (hb2.mono HR.out.1.size))))
  clear hb1 ha hb2 hR2 hQ ho ho2 hsm
  rw [hW2] at r0 rf z0 hRl
  have HW2 := Lib.hid hW2
  clear hW2
  go_wp2_with fail
  refine bodyPost_ret (v := .tuple #[.agg #[.slice sa xs.length sc], .bool true]) (by simp [results, Try.results22, go_sem, r0, rf, hRl]) rfl ?_
  rw [← HW2.out]
  obtain ⟨ho, hsm, hb⟩ := HO.out
  refine ⟨_, xs, rfl, ?_, hsm, ?_⟩
  · exact (ho.set (by show w.heap.size < _; simp) _ (a := ⟨w.heap.size, 0, none⟩)).mono (by simp)
  · exact hb.setCell (Nat.le_refl _) _

set_option maxHeartbeats 2000000 in
theorem srecAlbum_any (w : World) (s : ByteArray) (hs : s.size ≤ 1500000) :
    Calls Try.prog 18 #[.string s] w fun e w' => ∃ v xs, e = .returned (.tuple #[.agg #[v], .int .i64 ((recG s 8).2 : Nat), .bool true]) ∧ OwnA w' w.heap.size v xs ∧ Sames (xs.map PicX.p) (recG s 8).1 ∧ Below w.heap.size w w' := by
  have hb0 : Below w.heap.size w (w.alloc (.cells #[.slice none 0 0] 26)) := (Below.refl _ _).alloc (Nat.le_refl _) _
  have hR := BoxN.last w #[.slice none 0 0] 26
  have K := Lib.hid (srec_any (w.alloc (.cells #[.slice none 0 0] 26)) s hs)
  have HR := Lib.hid (And.intro hb0 hR)
  have hle := (recG_sound s 8).2.1
  clear hb0 hR
  go_enter Try.func18, Try.ntmps18
  go_wp2_with fail
  refine K.out.mono ?_
  rintro e w1 ⟨v, xs, rfl, ho, hsm, hb1⟩
  have HSM := Lib.hid hsm
  clear hsm
  obtain ⟨A, hA⟩ : ∃ A, (recG s 8).2 = A := ⟨_, rfl⟩
  have HAA := Lib.hid hA
  rw [hA] at hle ⊢
  obtain ⟨W2, hW2⟩ : ∃ W, W = w1.alloc (.cells #[v] 26) := ⟨_, rfl⟩
  have ha : Below w1.heap.size w1 W2 := by rw [hW2]; exact (Below.refl _ _).alloc (Nat.le_refl _) _
  have hb2 := hb1.trans (ha.mono hb1.size)
  have hR2 := HR.out.2.below hb2
  have r0 : W2.cell? ⟨w.heap.size, 0, none⟩ = some (.slice none 0 0) := hR2.cell 0
  have rf : W2.frozen? ⟨w.heap.size, 0, none⟩ = false := hR2.free 0
  have hRl := hR2.lt
  have hQ : BoxN W2 w1.heap.size #[v] 26 := by rw [hW2]; exact BoxN.last w1 _ _
  have z0 : W2.cell? ⟨w1.heap.size, 0, none⟩ = some v := hQ.cell 0
  have ho2 := ho.below ha
  obtain ⟨sa, sc, rfl, -, -⟩ := ho.form
  have HO := Lib.hid (And.intro ho2 (HR.out.1.trans (hb2.mono HR.out.1.size)))
  clear hb1 ha hb2 hR2 hQ ho ho2 hA
  rw [hW2] at r0 rf z0 hRl
  have HW2 := Lib.hid hW2
  clear hW2
  go_wp2_with fail
  refine bodyPost_ret (v := .tuple #[.agg #[.slice sa xs.length sc], .int .i64 (A : Int), .bool true]) (by simp [results, Try.results18, go_sem, r0, rf, hRl]) rfl ?_
  rw [← HW2.out]
  obtain ⟨ho, hb⟩ := HO.out
  refine ⟨_, xs, by rw [HAA.out], ?_, HSM.out, ?_⟩
  · exact (ho.set (by show w.heap.size < _; simp) _ (a := ⟨w.heap.size, 0, none⟩)).mono (by simp)
  · exact hb.setCell (Nat.le_refl _) _


set_option maxHeartbeats 2000000 in
theorem iload_no (w : World) (s : ByteArray) (hs : s.size ≤ 1500000) (hall : ¬ (recG s 8).2 = s.size) :
    Calls Try.prog 11 #[.string s] w fun e w' => e = .returned (.tuple #[.agg #[.slice none 0 0], .bool false]) ∧ Below w.heap.size w w' := by
  have hb0 : Below w.heap.size w (w.alloc (.cells #[.slice none 0 0] 26)) := (Below.refl _ _).alloc (Nat.le_refl _) _
  have hR := BoxN.last w #[.slice none 0 0] 26
  have K := Lib.hid (recover_any (w.alloc (.cells #[.slice none 0 0] 26)) s hs)
  have HR := Lib.hid (And.intro hb0 hR)
  have hle := (recG_sound s 8).2.1
  obtain ⟨A, hA⟩ : ∃ A, (recG s 8).2 = A := ⟨_, rfl⟩
  have HAA := Lib.hid hA
  rw [hA] at hle hall
  have hne : ((A : Int) != (s.size : Int)) = true := by simp; omega
  clear hb0 hR hA hall
  go_enter Try.func11, Try.ntmps11
  go_wp2_with fail
  refine K.out.mono ?_
  rintro e w1 ⟨v, xs, rfl, ho, hsm, hb1⟩
  clear hsm
  rw [HAA.out]
  obtain ⟨W2, hW2⟩ : ∃ W, W = w1.alloc (.cells #[v] 26) := ⟨_, rfl⟩
  have ha : Below w1.heap.size w1 W2 := by rw [hW2]; exact (Below.refl _ _).alloc (Nat.le_refl _) _
  have hb2 := hb1.trans (ha.mono hb1.size)
  have hR2 := HR.out.2.below hb2
  have r0 : W2.cell? ⟨w.heap.size, 0, none⟩ = some (.slice none 0 0) := hR2.cell 0
  have rf : W2.frozen? ⟨w.heap.size, 0, none⟩ = false := hR2.free 0
  have hRl := hR2.lt
  have HO := Lib.hid (HR.out.1.trans (hb2.mono HR.out.1.size))
  obtain ⟨sa, sc, rfl, -, -⟩ := ho.form
  clear hb1 ha hb2 hR2 ho
  rw [hW2] at r0 rf hRl
  have HW2 := Lib.hid hW2
  clear hW2
  go_wp2_with fail
  refine bodyPost_ret (v := .tuple #[.agg #[.slice none 0 0], .bool false]) (by simp [results, Try.results11, go_sem, r0, rf, hRl]) rfl ?_
  rw [← HW2.out]
  exact ⟨rfl, HO.out.setCell (Nat.le_refl _) _⟩

set_option maxHeartbeats 2000000 in
theorem sload_no (w : World) (s : ByteArray) (hs : s.size ≤ 1500000) (hall : ¬ (recG s 8).2 = s.size) :
    Calls Try.prog 22 #[.string s] w fun e w' => e = .returned (.tuple #[.agg #[.slice none 0 0], .bool false]) ∧ Below w.heap.size w w' := by
  have hb0 : Below w.heap.size w (w.alloc (.cells #[.slice none 0 0] 26)) := (Below.refl _ _).alloc (Nat.le_refl _) _
  have hR := BoxN.last w #[.slice none 0 0] 26
  have K := Lib.hid (srec_any (w.alloc (.cells #[.slice none 0 0] 26)) s hs)
  have HR := Lib.hid (And.intro hb0 hR)
  have hle := (recG_sound s 8).2.1
  obtain ⟨A, hA⟩ : ∃ A, (recG s 8).2 = A := ⟨_, rfl⟩
  have HAA := Lib.hid hA
  rw [hA] at hle hall
  have hne : ((A : Int) != (s.size : Int)) = true := by simp; omega
  clear hb0 hR hA hall
  go_enter Try.func22, Try.ntmps22
  go_wp2_with fail
  refine K.out.mono ?_
  rintro e w1 ⟨v, xs, rfl, ho, hsm, hb1⟩
  clear hsm
  rw [HAA.out]
  obtain ⟨W2, hW2⟩ : ∃ W, W = w1.alloc (.cells #[v] 26) := ⟨_, rfl⟩
  have ha : Below w1.heap.size w1 W2 := by rw [hW2]; exact (Below.refl _ _).alloc (Nat.le_refl _) _
  have hb2 := hb1.trans (ha.mono hb1.size)
  have hR2 := HR.out.2.below hb2
  have r0 : W2.cell? ⟨w.heap.size, 0, none⟩ = some (.slice none 0 0) := hR2.cell 0
  have rf : W2.frozen? ⟨w.heap.size, 0, none⟩ = false := hR2.free 0
  have hRl := hR2.lt
  have HO := Lib.hid (HR.out.1.trans (hb2.mono HR.out.1.size))
  obtain ⟨sa, sc, rfl, -, -⟩ := ho.form
  clear hb1 ha hb2 hR2 ho
  rw [hW2] at r0 rf hRl
  have HW2 := Lib.hid hW2
  clear hW2
  go_wp2_with fail
  refine bodyPost_ret (v := .tuple #[.agg #[.slice none 0 0], .bool false]) (by simp [results, Try.results22, go_sem, r0, rf, hRl]) rfl ?_
  rw [← HW2.out]
  exact ⟨rfl, HO.out.setCell (Nat.le_refl _) _⟩

/-- What is loaded of a text. -/
def ldS (s : ByteArray) : List PicB := if (recG s 8).2 = s.size then (recG s 8).1 else []
def LdPost (w : World) (s : ByteArray) (e : Ending) (w' : World) : Prop :=
  ∃ v xs, e = .returned (.tuple #[.agg #[v], .bool (decide ((recG s 8).2 = s.size))]) ∧ OwnA w' w.heap.size v xs ∧ Sames (xs.map PicX.p) (ldS s) ∧ Below w.heap.size w w'
theorem iload_any (w : World) (s : ByteArray) (hs : s.size ≤ 1500000) : Calls Try.prog 11 #[.string s] w (LdPost w s) := by
  by_cases h : (recG s 8).2 = s.size
  · refine (loadAlbum_any w s hs h).mono ?_
    rintro e w' ⟨v, xs, rfl, ho, hsm, hb⟩
    exact ⟨v, xs, by rw [decide_eq_true h], ho, by unfold ldS; rw [if_pos h]; exact hsm, hb⟩
  · refine (iload_no w s hs h).mono ?_
    rintro e w' ⟨rfl, hb⟩
    exact ⟨.slice none 0 0, [], by rw [decide_eq_false h], OwnA.nil _ _, by unfold ldS; rw [if_neg h]; exact .nil, hb⟩
theorem sload_any (w : World) (s : ByteArray) (hs : s.size ≤ 1500000) : Calls Try.prog 22 #[.string s] w (LdPost w s) := by
  by_cases h : (recG s 8).2 = s.size
  · refine (sload_yes w s hs h).mono ?_
    rintro e w' ⟨v, xs, rfl, ho, hsm, hb⟩
    exact ⟨v, xs, by rw [decide_eq_true h], ho, by unfold ldS; rw [if_pos h]; exact hsm, hb⟩
  · refine (sload_no w s hs h).mono ?_
    rintro e w' ⟨rfl, hb⟩
    exact ⟨.slice none 0 0, [], by rw [decide_eq_false h], OwnA.nil _ _, by unfold ldS; rw [if_neg h]; exact .nil, hb⟩

end Go.Proofs.Ytkifhajkmgeafaa
