/- The law FnExactReadVolume: its walk. -/
import Derived.Test.YtcppoadeelnphaaDoorCx
namespace Go.Proofs.YtcppoadeelnphaaDoor
open Go.RowKit Ieee
set_option maxRecDepth 100000
set_option linter.unusedVariables false
set_option linter.unusedSimpArgs false

theorem boxCells {W : World} {b : Nat} {x y z u : Value} {T : TypeId} (h : BoxN W b #[x, y, z, u] T) : (W.cell? ⟨b, 0, none⟩ = some x ∧ W.cell? ⟨b, 1, none⟩ = some y ∧ W.cell? ⟨b, 2, none⟩ = some z ∧ W.cell? ⟨b, 3, none⟩ = some u) ∧ b < W.heap.size := ⟨⟨h.cell 0, h.cell 1, h.cell 2, h.cell 3⟩, h.lt⟩

set_option maxHeartbeats 8000000 in
theorem fnExactReadVolume_walk (w : World) (s : ByteArray) (m : Int) (hm : w.cell? ⟨0, 0, none⟩ = some (.int .i64 m)) (ht : TabT w) (he : ErrT w) :
    Calls Tryd.prog 5 #[.string s] w fun e w' => e = .returned (.bool true) ∧ Below w.heap.size w w' := by
  by_cases hs : s.size ≤ 1048576
  case neg =>
    have h1 : (1048576 : Int) < (s.size : Int) := by omega
    go_enter Tryd.func5, Tryd.ntmps5
    go_wp2_with fail
    go_ret
    exact ⟨rfl, Below.refl _ _⟩
  case pos =>
    have h1 : ¬ (1048576 : Int) < (s.size : Int) := by omega
    have KS := sReadVolume_any w s (by omega)
    have KI := fun W (hb : Below w.heap.size w W) => iReadVolume_any W s m (by omega) ((hb.cell (p := ⟨0, 0, none⟩) (World.block_lt_of_cell? _ _ hm)).trans hm) (he.below hb) (ht.below hb)
    obtain ⟨t, ht⟩ : ∃ t, vuT s.data.toList = t := ⟨_, rfl⟩
    rw [ht] at KS
    simp only [ht] at KI
    obtain ⟨n, hn⟩ : ∃ n, t.L.length = n := ⟨_, rfl⟩
    have HN := Lib.hid hn
    have hn2 : n ≤ 256 := by rw [← hn, ← ht]; exact vuT_len _
    have HN2 := Lib.hid hn2
    have ok1 : (t.ok != t.ok) = false := by simp
    have KS := Lib.hid KS
    have KI := Lib.hid KI
    clear ht hm he hs hn hn2
    go_enter Tryd.func5, Tryd.ntmps5
    go_wp2_with fail
    refine KS.out.mono ?_
    rintro e w1 ⟨s0, c0, rfl, ho0, hb1⟩
    rw [HN.out] at ho0 ⊢
    obtain ⟨V1, hV1⟩ : ∃ W, W = w1.alloc (.cells #[.int .i64 t.a, .int .i64 t.b, .int .i64 t.d, .slice s0 n c0] 37) := ⟨_, rfl⟩
    have H1 := Lib.hid (((StG.start (Below.refl _ w)).addSl hb1 ho0).addBox hV1)
    have HV1 := Lib.hid hV1
    clear hb1 ho0 hV1 KS
    go_wp2_with fail
    rw [← HV1.out]
    refine (KI.out _ H1.out.bel).mono ?_
    rintro e w2 ⟨s1, c1, rfl, ho1, hb2⟩
    rw [HN.out] at ho1 ⊢
    obtain ⟨V2, hV2⟩ : ∃ W, W = w2.alloc (.cells #[.int .i64 t.a, .int .i64 t.b, .int .i64 t.d, .slice s1 n c1] 37) := ⟨_, rfl⟩
    have H2 := Lib.hid ((H1.out.addSl hb2 ho1).addBox hV2)
    have HV2 := Lib.hid hV2
    obtain ⟨⟨p0, p1, p2, p3⟩, pl⟩ := boxCells (H2.out.box 0 _ rfl)
    obtain ⟨⟨q0, q1, q2, q3⟩, ql⟩ := boxCells (H2.out.box 1 _ rfl)
    have KE := Lib.hid (eqV_yes V2 t.a t.b t.d s1 s0 n n c1 c0 t.L t.L (H2.out.own 1 _ rfl).sl (H2.out.own 0 _ rfl).sl rfl)
    rw [hV2] at p0 p1 p2 p3 pl q0 q1 q2 q3 ql
    clear hb2 ho1 hV2
    go_wp2_with fail
    clear p0 p1 p2 p3 pl q0 q1 q2 q3 ql
    rw [← HV2.out]
    refine KE.out.mono ?_
    rintro e w3 ⟨rfl, hb3⟩
    have H3 := Lib.hid (H2.out.below hb3)
    obtain ⟨⟨q0, q1, q2, q3⟩, ql⟩ := boxCells (H3.out.box 1 _ rfl)
    have hmk := markV_any w3 w.heap.size t.a t.b t.d s1 c1 t.L 1 (by rw [HN.out]; have := HN2.out; omega) H3.out.bel.size (by rw [HN.out]; exact H3.out.own 1 _ rfl)
    rw [HN.out] at hmk
    have KM := Lib.hid hmk
    clear hb3 hmk KE
    go_wp2_with fail
    clear q0 q1 q2 q3 ql
    refine KM.out.mono ?_
    rintro e w4 ⟨rfl, hown4, hg4⟩
    have H4 := Lib.hid (H3.out.mark (k := 1) rfl hown4 hg4)
    obtain ⟨⟨q0, q1, q2, q3⟩, ql⟩ := boxCells (H4.out.box 1 _ rfl)
    have KH := Lib.hid (fun W (hb : Below w4.heap.size w4 W) => heldV_yes W t.a t.b t.d s1 n c1 1 n (by have := HN2.out; omega) ((H4.out.below hb).own 1 _ rfl).sl)
    rw [show (((1 + n : Nat) : Nat) : Int) = 1 + (n : Int) by push_cast; rfl] at KH
    have hn9 : (n : Int) ≤ 256 := by have := HN2.out; omega
    have hc1 : decide (1 + (n : Int) < 0) = false := decide_eq_false (by omega)
    clear hown4 hg4 KM
    go_wp2_with fail
    clear q0 q1 q2 q3 ql
    refine (KH.out w4 (Below.refl _ _)).mono ?_
    rintro e w5 ⟨rfl, hb5⟩
    have H5 := Lib.hid (H4.out.below hb5)
    have HB5 := Lib.hid hb5
    clear hb5
    go_wp2_with fail
    refine (KI.out _ H5.out.bel).mono ?_
    rintro e w6 ⟨s2, c2, rfl, ho2, hb6⟩
    rw [HN.out] at ho2 ⊢
    obtain ⟨V6, hV6⟩ : ∃ W, W = w6.alloc (.cells #[.int .i64 t.a, .int .i64 t.b, .int .i64 t.d, .slice s2 n c2] 37) := ⟨_, rfl⟩
    have hbV : Below w6.heap.size w6 V6 := by rw [hV6]; exact belowA (Below.refl _ _) _
    have H6 := Lib.hid ((H5.out.addSl hb6 ho2).addBox hV6)
    have HB6 := Lib.hid (HB5.out.trans ((hb6.trans (hbV.mono hb6.size)).mono HB5.out.size))
    have HV6 := Lib.hid hV6
    obtain ⟨⟨p0, p1, p2, p3⟩, pl⟩ := boxCells (H6.out.box 0 _ rfl)
    obtain ⟨⟨q0, q1, q2, q3⟩, ql⟩ := boxCells (H6.out.box 2 _ rfl)
    have KE := Lib.hid (eqV_yes V6 t.a t.b t.d s2 s0 n n c2 c0 t.L t.L (H6.out.own 2 _ rfl).sl (H6.out.own 0 _ rfl).sl rfl)
    rw [hV6] at p0 p1 p2 p3 pl q0 q1 q2 q3 ql
    clear hb6 ho2 hV6 hbV
    go_wp2_with fail
    clear p0 p1 p2 p3 pl q0 q1 q2 q3 ql
    rw [← HV6.out]
    refine KE.out.mono ?_
    rintro e w7 ⟨rfl, hb7⟩
    have H7 := Lib.hid (H6.out.below hb7)
    have HB7 := Lib.hid (HB6.out.trans (hb7.mono HB6.out.size))
    obtain ⟨⟨q0, q1, q2, q3⟩, ql⟩ := boxCells (H7.out.box 1 _ rfl)
    clear hb7 KE
    go_wp2_with fail
    clear q0 q1 q2 q3 ql
    refine (KH.out w7 HB7.out).mono ?_
    rintro e w8 ⟨rfl, hb8⟩
    have HF := Lib.hid (H7.out.bel.trans (hb8.mono H7.out.bel.size))
    clear hb8
    go_wp2_with fail
    go_ret
    exact ⟨rfl, HF.out⟩

end Go.Proofs.YtcppoadeelnphaaDoor
