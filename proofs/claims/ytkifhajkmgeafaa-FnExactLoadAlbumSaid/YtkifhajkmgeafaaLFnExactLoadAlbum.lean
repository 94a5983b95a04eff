/- The law FnExactLoadAlbum: its walk. -/
import Derived.Test.YtkifhajkmgeafaaZu
import Derived.Test.YtkifhajkmgeafaaZv
import Derived.Test.YtkifhajkmgeafaaLaw
namespace Go.Proofs.Ytkifhajkmgeafaa
open Go.RowKit
set_option maxRecDepth 100000
set_option linter.unusedVariables false
set_option linter.unusedSimpArgs false

theorem OwnM.lens {w : World} {B : Nat} {v : Value} {xs : List PicX} (h : OwnA w B v xs) : ∀ x ∈ xs, x.p.bs.length ≤ 256 := fun x hx => (h.pic x hx).2.dims.2.2.2.2.2.1
theorem Sames.symm {ps qs : List PicB} (h : Sames ps qs) : Sames qs ps := by
  induction h with
  | nil => exact .nil
  | cons h1 _ ih => exact .cons ⟨h1.1.symm, h1.2.1.symm, h1.2.2.symm⟩ ih
theorem Sames.trans {ps qs rs : List PicB} (h : Sames ps qs) : Sames qs rs → Sames ps rs := by
  intro h2
  induction h generalizing rs with
  | nil => exact h2
  | cons h1 _ ih =>
    cases h2 with
    | cons k1 k2 => exact .cons ⟨h1.1.trans k1.1, h1.2.1.trans k1.2.1, h1.2.2.trans k1.2.2⟩ (ih k2)
theorem recG_len8 (s : ByteArray) : (recG s 8).1.length ≤ 8 := recG_le s 8
theorem ldS_len (s : ByteArray) : (ldS s).length ≤ 8 := by
  unfold ldS; split
  · exact recG_le s 8
  · simp

set_option maxHeartbeats 4000000 in
theorem fnExactLoadAlbum_walk (w : World) (s : ByteArray) : Calls Try.prog 5 #[.string s] w fun e w' => e = .returned (.bool true) ∧ Below w.heap.size w w' := by
  by_cases hsz : s.size ≤ 1048576
  · have hd : decide ((1048576 : Int) < (s.size : Int)) = false := decide_eq_false (by omega)
    have hlen8 := ldS_len s
    have KS := Lib.hid (fun W => sload_any W s (by omega))
    have KI := Lib.hid (fun W => iload_any W s (by omega))
    obtain ⟨okv, hokv⟩ : ∃ b, decide ((recG s 8).2 = s.size) = b := ⟨_, rfl⟩
    have KS : Hid (∀ W, Calls Try.prog 22 #[.string s] W fun e w' => ∃ v xs, e = .returned (.tuple #[.agg #[v], .bool okv]) ∧ OwnA w' W.heap.size v xs ∧ Sames (xs.map PicX.p) (ldS s) ∧ Below W.heap.size W w') := by rw [← hokv]; exact Lib.hid (fun W => KS.out W)
    have KI : Hid (∀ W, Calls Try.prog 11 #[.string s] W fun e w' => ∃ v xs, e = .returned (.tuple #[.agg #[v], .bool okv]) ∧ OwnA w' W.heap.size v xs ∧ Sames (xs.map PicX.p) (ldS s) ∧ Below W.heap.size W w') := by rw [← hokv]; exact Lib.hid (fun W => KI.out W)
    clear hokv
    have HL8 := Lib.hid hlen8
    clear hsz hlen8
    go_enter Try.func5, Try.ntmps5
    go_wp2_with fail
    refine (KS.out _).mono ?_
    rintro e w1 ⟨v0, xs0, rfl, ho0, hs0, hb1⟩
    obtain ⟨sa0, sc0, rfl, -, -⟩ := ho0.form
    obtain ⟨W1, hW1⟩ : ∃ W, W = w1.alloc (.cells #[.slice sa0 xs0.length sc0] 26) := ⟨_, rfl⟩
    have a1 : Below w1.heap.size w1 W1 := by rw [hW1]; exact (Below.refl _ _).alloc (Nat.le_refl _) _
    have x1 : BoxN W1 w1.heap.size #[.slice sa0 xs0.length sc0] 26 := by rw [hW1]; exact BoxN.last w1 _ _
    have l0 : xs0.length ≤ 8 := by have := hs0.length_eq; rw [List.length_map] at this; have := HL8.out; omega
    have H1 := Lib.hid (And.intro (ho0.om.below a1) (And.intro x1 (And.intro (hb1.trans (a1.mono hb1.size)) hs0)))
    have HW1 := Lib.hid hW1
    have b1 : w1.heap.size < W1.heap.size := x1.lt
    clear ho0 hs0 hb1 a1 x1 hW1
    go_wp2_with fail
    rw [← HW1.out]
    refine (KI.out _).mono ?_
    rintro e w2 ⟨v1, xs1, rfl, ho1, hs1, hb2⟩
    obtain ⟨sa1, sc1, rfl, -, -⟩ := ho1.form
    obtain ⟨W2, hW2⟩ : ∃ W, W = w2.alloc (.cells #[.slice sa1 xs1.length sc1] 26) := ⟨_, rfl⟩
    have a2 : Below w2.heap.size w2 W2 := by rw [hW2]; exact (Below.refl _ _).alloc (Nat.le_refl _) _
    have x2 : BoxN W2 w2.heap.size #[.slice sa1 xs1.length sc1] 26 := by rw [hW2]; exact BoxN.last w2 _ _
    have l1 : xs1.length ≤ 8 := by have := hs1.length_eq; rw [List.length_map] at this; have := HL8.out; omega
    have c2 : Below W1.heap.size W1 W2 := hb2.trans (a2.mono hb2.size)
    have H2 := Lib.hid (And.intro (ho1.om.below a2) (And.intro x2 (And.intro c2 (And.intro hs1 (And.intro (OwnM.lens ho1) (And.intro (show ∀ g, (Value.slice sa1 xs1.length sc1).ownBlock = some g → g < w2.heap.size from fun g hg => (ho1.row.lt g hg).2) (show ∀ x ∈ xs1, x.q < w2.heap.size from fun x hx => (ho1.qlt hx).2)))))))
    have p0 : W2.cell? ⟨w1.heap.size, 0, none⟩ = some (.slice sa0 xs0.length sc0) := (H1.out.2.1.below c2).cell 0
    have p1 : W2.cell? ⟨w2.heap.size, 0, none⟩ = some (.slice sa1 xs1.length sc1) := x2.cell 0
    have b2 : w2.heap.size < W2.heap.size := x2.lt
    have b2' : W1.heap.size ≤ w2.heap.size := hb2.size
    have KE := Lib.hid (eqAlbum_yes W2 _ _ (.slice sa1 xs1.length sc1) (.slice sa0 xs0.length sc0) xs1 xs0 (ho1.om.below a2) (H1.out.1.below c2) (by omega) (hs1.trans H1.out.2.2.2.symm))
    have HW2 := Lib.hid hW2
    rw [hW2] at p0 p1
    clear ho1 hs1 hb2 a2 x2 hW2 c2
    go_wp2_with fail
    rw [← HW2.out]
    refine KE.out.mono ?_
    rintro e w3 ⟨rfl, hb3⟩
    have q3 : W2.heap.size ≤ w3.heap.size := hb3.size
    have H3 := Lib.hid hb3
    have p0 : w3.cell? ⟨w1.heap.size, 0, none⟩ = some (.slice sa0 xs0.length sc0) := ((H1.out.2.1.below H2.out.2.2.1).below hb3).cell 0
    have p1 : w3.cell? ⟨w2.heap.size, 0, none⟩ = some (.slice sa1 xs1.length sc1) := (H2.out.2.1.below hb3).cell 0
    have KM := Lib.hid (markAlbum_any w3 W1.heap.size (.slice sa1 xs1.length sc1) 1 xs1 (H2.out.1.below hb3) (by omega) (by omega) H2.out.2.2.2.2.1 (by omega) w2.heap.size H2.out.2.2.2.2.2.1 H2.out.2.2.2.2.2.2)
    rw [show ((1 : Nat) : Int) = 1 from rfl] at KM
    have KEK := Lib.hid (endK_le xs1 1 H2.out.2.2.2.2.1)
    obtain ⟨E, hE⟩ : ∃ E, endK 1 xs1 = E := ⟨_, rfl⟩
    rw [hE] at KM KEK
    have hEl : E ≤ 3000 := by have := KEK.out; omega
    have HE := Lib.hid hE
    clear hb3 hE
    go_wp2_with fail
    refine KM.out.mono ?_
    rintro e w4 ⟨rfl, hm4, hb4⟩
    have q4 : w3.heap.size ≤ w4.heap.size := hb4.bel.size
    have H4 := Lib.hid (And.intro hm4 hb4)
    have x4 : BoxN w4 w2.heap.size #[.slice sa1 xs1.length sc1] 26 := by
      have := H2.out.2.1.below H3.out
      unfold BoxN at this ⊢
      rw [hb4.up _ (Nat.le_refl _) (by omega)]; exact this
    have c4 : Below W1.heap.size W1 w4 := (H2.out.2.2.1.trans (H3.out.mono (by omega))).trans hb4.bel
    have X4 := Lib.hid (And.intro x4 c4)
    have p0 : w4.cell? ⟨w1.heap.size, 0, none⟩ = some (.slice sa0 xs0.length sc0) := (H1.out.2.1.below c4).cell 0
    have p1 : w4.cell? ⟨w2.heap.size, 0, none⟩ = some (.slice sa1 xs1.length sc1) := x4.cell 0
    have KH := Lib.hid (fun w' (hw : Below w4.heap.size w4 w') => heldAlbum_yes w' W1.heap.size (.slice sa1 xs1.length sc1) 1 xs1 (H4.out.1.below hw) (by omega) (by omega) H2.out.2.2.2.2.1)
    rw [HE.out, show ((1 : Nat) : Int) = 1 from rfl] at KH
    have e5 : decide ((E : Int) < 0) = false := decide_eq_false (by omega)
    clear hm4 hb4 x4 c4
    go_wp2_with fail
    refine (KH.out _ (Below.refl _ _)).mono ?_
    rintro e w5 ⟨rfl, hb5⟩
    have q5 : w4.heap.size ≤ w5.heap.size := hb5.size
    have H5 := Lib.hid hb5
    have p0 : w5.cell? ⟨w1.heap.size, 0, none⟩ = some (.slice sa0 xs0.length sc0) := ((H1.out.2.1.below X4.out.2).below hb5).cell 0
    have p1 : w5.cell? ⟨w2.heap.size, 0, none⟩ = some (.slice sa1 xs1.length sc1) := (X4.out.1.below hb5).cell 0
    clear hb5
    go_wp2_with fail
    refine (KI.out _).mono ?_
    rintro e w6 ⟨v2, xs2, rfl, ho2, hs2, hb6⟩
    obtain ⟨sa2, sc2, rfl, -, -⟩ := ho2.form
    obtain ⟨W6, hW6⟩ : ∃ W, W = w6.alloc (.cells #[.slice sa2 xs2.length sc2] 26) := ⟨_, rfl⟩
    have a6 : Below w6.heap.size w6 W6 := by rw [hW6]; exact (Below.refl _ _).alloc (Nat.le_refl _) _
    have x6 : BoxN W6 w6.heap.size #[.slice sa2 xs2.length sc2] 26 := by rw [hW6]; exact BoxN.last w6 _ _
    have l2 : xs2.length ≤ 8 := by have := hs2.length_eq; rw [List.length_map] at this; have := HL8.out; omega
    have c6 : Below w4.heap.size w4 W6 := H5.out.trans ((hb6.trans (a6.mono hb6.size)).mono H5.out.size)
    have d6 : Below W1.heap.size W1 W6 := X4.out.2.trans (c6.mono (by omega))
    have p0 : W6.cell? ⟨w1.heap.size, 0, none⟩ = some (.slice sa0 xs0.length sc0) := (H1.out.2.1.below d6).cell 0
    have p1 : W6.cell? ⟨w2.heap.size, 0, none⟩ = some (.slice sa1 xs1.length sc1) := (X4.out.1.below c6).cell 0
    have p2 : W6.cell? ⟨w6.heap.size, 0, none⟩ = some (.slice sa2 xs2.length sc2) := x6.cell 0
    have KE2 := Lib.hid (eqAlbum_yes W6 _ _ (.slice sa2 xs2.length sc2) (.slice sa0 xs0.length sc0) xs2 xs0 (ho2.om.below a6) (H1.out.1.below d6) (by omega) (hs2.trans H1.out.2.2.2.symm))
    have HW6 := Lib.hid hW6
    have H6 := Lib.hid (And.intro c6 d6)
    have q6 : w5.heap.size ≤ w6.heap.size := hb6.size
    have q7 : w6.heap.size < W6.heap.size := x6.lt
    rw [hW6] at p0 p1 p2
    clear ho2 hs2 hb6 a6 x6 hW6 c6 d6
    go_wp2_with fail
    rw [← HW6.out]
    refine KE2.out.mono ?_
    rintro e w7 ⟨rfl, hb7⟩
    have q8 : W6.heap.size ≤ w7.heap.size := hb7.size
    have c7 := H6.out.1.trans (hb7.mono (by omega))
    have H7 := Lib.hid c7
    have p1 : w7.cell? ⟨w2.heap.size, 0, none⟩ = some (.slice sa1 xs1.length sc1) := (X4.out.1.below c7).cell 0
    have HEND := Lib.hid (H6.out.2.trans (hb7.mono (by omega)))
    clear hb7 c7
    go_wp2_with fail
    refine (KH.out _ H7.out).mono ?_
    rintro e w8 ⟨rfl, hb8⟩
    have HF := Lib.hid (H1.out.2.2.1.trans ((HEND.out.trans (hb8.mono (by have := HEND.out.size; exact this))).mono H1.out.2.2.1.size))
    clear hb8
    go_wp2_with fail
    go_ret
    exact ⟨rfl, HF.out⟩
  · have hd : decide ((1048576 : Int) < (s.size : Int)) = true := decide_eq_true (by omega)
    clear hsz
    go_enter Try.func5, Try.ntmps5
    go_wp2_with fail
    go_ret
    exact ⟨rfl, Below.refl _ _⟩

end Go.Proofs.Ytkifhajkmgeafaa
