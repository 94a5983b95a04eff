/- The law FnExactRecoverJournal: its walk. -/
import Derived.Test.YtegcbbmbmchagaaDoorBg
import Derived.Test.YtegcbbmbmchagaaDoorBh
namespace Go.Proofs.YtegcbbmbmchagaaDoor
open Go.RowKit
set_option maxRecDepth 100000
set_option linter.unusedVariables false
set_option linter.unusedSimpArgs false

def rcL (s : ByteArray) : List (List UInt8) := if 12000 < s.size then [] else (recJ 0 (lnsL s.data.toList)).1
def rcN (s : ByteArray) : Nat := if 12000 < s.size then 0 else (recJ 0 (lnsL s.data.toList)).2
def rcK (s : ByteArray) : Bool := decide (s.size ≤ 12000)
/-- What is recovered, in one shape. -/
def RcOne (w : World) (s : ByteArray) (e : Ending) (w' : World) : Prop := ∃ v, e = .returned (.tuple #[v, .int .i64 (rcN s : Nat), .bool (rcK s)]) ∧ OwnS w' w.heap.size v (rcL s) ∧ Below w.heap.size w w'
theorem RcPost.one {w w' : World} {s : ByteArray} {e : Ending} (h : RcPost w s e w') : RcOne w s e w' := by
  obtain ⟨hb, ⟨h1, rfl⟩ | ⟨h1, g, cap, rfl, ho⟩⟩ := h
  · refine ⟨.slice none 0 0, ?_, ?_, hb⟩
    · unfold rcN rcK
      rw [if_pos h1, decide_eq_false (by omega)]; rfl
    · unfold rcL
      rw [if_pos h1]; exact OwnS.nil _ _
  · refine ⟨.slice (some ⟨g, 0, none⟩) (recJ 0 (lnsL s.data.toList)).1.length cap, ?_, ?_, hb⟩
    · unfold rcN rcK
      rw [if_neg (by omega), decide_eq_true h1]
    · unfold rcL
      rw [if_neg (by omega)]; exact ho
theorem rcL_len (s : ByteArray) : (rcL s).length ≤ 12000 := by
  unfold rcL
  split
  · simp
  · have h1 := recJ_len (lnsL s.data.toList) 0
    have h2 := lns_le s.data.toList
    rw [ba_size] at h2
    omega

theorem sRecJ_any (w : World) (s : ByteArray) (hs : s.size ≤ 2000000) : Calls Tryd.prog 13 #[.string s] w (RcPost w s) := by
  obtain ⟨n, hnn⟩ : ∃ n, s.size = n := ⟨_, rfl⟩
  by_cases hbig : 12000 < n
  · have h1 : (12000 : Int) < (n : Int) := by omega
    go_enter Tryd.func13, Tryd.ntmps13
    go_wp2_with fail
    go_ret3
    exact ⟨Below.refl _ _, .inl ⟨by omega, rfl⟩⟩
  · have h1 : ¬ (12000 : Int) < (n : Int) := by omega
    have K := Lib.hid (s08Recover_any w s (by omega))
    go_enter Tryd.func13, Tryd.ntmps13
    go_wp2_with fail
    refine K.out.mono ?_
    rintro e w1 ⟨g, cap, rfl, ho, hb⟩
    have HO := Lib.hid (And.intro ho hb)
    clear ho hb K
    go_wp2_with fail
    go_ret3
    exact ⟨HO.out.2, .inr ⟨by omega, g, cap, rfl, HO.out.1⟩⟩

set_option maxHeartbeats 4000000 in
theorem fnExactRecoverJournal_walk (w : World) (s : ByteArray) (m : Int) (hm : w.cell? ⟨0, 0, none⟩ = some (.int .i64 m)) (ht : TabT w) :
    Calls Tryd.prog 5 #[.string s] w fun e w' => e = .returned (.bool true) ∧ Below w.heap.size w w' := by
  by_cases hs : s.size ≤ 1048576
  case neg =>
    have h1 : (1048576 : Int) < (s.size : Int) := by omega
    go_enter Tryd.func5, Tryd.ntmps5
    go_wp2_with fail
    go_ret
    exact ⟨rfl, Below.refl _ _⟩
  case pos =>
    have h1 : ¬ (1048576 : Int) < (s.size : Int) := by omega
    have hml := World.block_lt_of_cell? _ _ hm
    have KS := Lib.hid (sRecJ_any w s (by omega))
    have KI := Lib.hid (fun W (hb : Below w.heap.size w W) => iRecJ_any W s m (by omega) ((hb.cell (p := ⟨0, 0, none⟩) hml).trans hm) (ht.below hb))
    have HLN := Lib.hid (rcL_len s)
    have n1 : ((rcN s : Int) != (rcN s : Int)) = false := by simp
    have n2 : (rcK s != rcK s) = false := by simp
    obtain ⟨zn, hzn⟩ : ∃ zn, zn = rcN s := ⟨_, rfl⟩
    obtain ⟨zk, hzk⟩ : ∃ zk, zk = rcK s := ⟨_, rfl⟩
    obtain ⟨P, hP⟩ : ∃ P, P = rcL s := ⟨_, rfl⟩
    have HONE := Lib.hid (fun W e W' (h : RcPost W s e W') => (show ∃ v, e = .returned (.tuple #[v, .int .i64 (zn : Nat), .bool zk]) ∧ OwnS W' W.heap.size v P ∧ Below W.heap.size W W' by
      rw [hzn, hzk, hP]; exact h.one))
    rw [← hzn] at n1
    rw [← hzk] at n2
    rw [← hP] at HLN
    clear hzn hzk hP hm ht
    go_enter Tryd.func5, Tryd.ntmps5
    go_wp2_with fail
    refine KS.out.mono ?_
    intro e w1 h
    obtain ⟨v0, rfl, ho0, hb1⟩ := HONE.out _ _ _ h
    have H1 := Lib.hid (And.intro ho0 hb1)
    clear h ho0 hb1 KS
    go_wp2_with fail
    refine (KI.out _ H1.out.2).mono ?_
    intro e w2 h
    obtain ⟨v1, rfl, ho1, hb2⟩ := HONE.out _ _ _ h
    have H2 := Lib.hid (show OwnS w2 w.heap.size v0 P ∧ OwnS w2 w1.heap.size v1 P ∧ Below w.heap.size w w2 from ⟨H1.out.1.below hb2, ho1, H1.out.2.trans (hb2.mono H1.out.2.size)⟩)
    have hsep : ∀ g, v1.ownBlock = some g → v0.ownBlock = some g → False := fun g e1 e2 => by
      have h3 := (ho1.lt e1).1
      have h4 := (H1.out.1.lt e2).2
      omega
    have HSEP := Lib.hid hsep
    have hs1 := H1.out.2.size
    clear h ho1 hb2 hsep
    go_wp2_with fail
    refine (eqS_any w2 v1 v0 P H2.out.2.1.sv H2.out.1.sv (by have := HLN.out; omega)).mono ?_
    rintro e w3 ⟨rfl, q, hw3⟩
    have hb3 : Below w2.heap.size w2 w3 := by rw [hw3]; exact below_drewN (Below.refl _ _) q
    have H3 := Lib.hid (show OwnS w3 w.heap.size v0 P ∧ OwnS w3 w1.heap.size v1 P ∧ Below w.heap.size w w3 from ⟨H2.out.1.below hb3, H2.out.2.1.below hb3, H2.out.2.2.trans (hb3.mono H2.out.2.2.size)⟩)
    have KM := Lib.hid (markS_any w3 w1.heap.size v1 P 1 (Nat.le_refl _) (by have := HLN.out; omega) H3.out.2.1)
    obtain ⟨nn, hnn⟩ : ∃ nn, nn = 1 + P.length := ⟨_, rfl⟩
    rw [← hnn] at KM
    have hnnI : (nn : Int) ≤ 100000 := by have := HLN.out; omega
    have HNN := Lib.hid hnn
    clear hw3 hb3 hnn
    go_wp2_with fail
    refine KM.out.mono ?_
    rintro e w4 ⟨rfl, hom, hg⟩
    have hb4 : Below w.heap.size w w4 := H3.out.2.2.grown hg H3.out.2.2.size (fun g hgx => by have := (H3.out.2.1.lt hgx).1; omega)
    have ho4 : OwnS w4 w.heap.size v0 P := World.ownsRow.kept H3.out.1 hg (by
      cases e : v0.ownBlock with
      | none => exact .inl rfl
      | some g => exact .inr fun e2 => HSEP.out g e2.symm e)
    have H4 := Lib.hid (And.intro ho4 (And.intro hom hb4))
    have KH := Lib.hid (fun W (h : OwnS W w1.heap.size v1 (mkS 1 P.length)) => (show Calls Tryd.prog 16 #[v1, .int .i64 1] W fun e w' => e = .returned (.int .i64 (nn : Int)) ∧ Below W.heap.size W w' by
      have h9 := heldS_yes W v1 1 P.length (Nat.le_refl _) (by have := HLN.out; omega) h.sv
      rw [← HNN.out] at h9
      exact h9))
    have hnd : decide ((nn : Int) < 0) = false := decide_eq_false (by omega)
    have hne : ((nn : Int) != (nn : Int)) = false := by simp
    clear hom hg hb4 ho4 KM
    go_wp2_with fail
    refine (KH.out _ H4.out.2.1).mono ?_
    rintro e w5 ⟨rfl, hb5⟩
    have H5 := Lib.hid (show OwnS w5 w.heap.size v0 P ∧ OwnS w5 w1.heap.size v1 (mkS 1 P.length) ∧ Below w.heap.size w w5 from ⟨H4.out.1.below hb5, H4.out.2.1.below hb5, H4.out.2.2.trans (hb5.mono H4.out.2.2.size)⟩)
    clear hb5
    go_wp2_with fail
    refine (KI.out _ H5.out.2.2).mono ?_
    intro e w6 h
    obtain ⟨v2, rfl, ho2, hb6⟩ := HONE.out _ _ _ h
    have H6 := Lib.hid (show OwnS w6 w.heap.size v0 P ∧ OwnS w6 w1.heap.size v1 (mkS 1 P.length) ∧ OwnS w6 w5.heap.size v2 P ∧ Below w.heap.size w w6 from ⟨H5.out.1.below hb6, H5.out.2.1.below hb6, ho2, H5.out.2.2.trans (hb6.mono H5.out.2.2.size)⟩)
    clear h ho2 hb6
    go_wp2_with fail
    refine (eqS_any w6 v2 v0 P H6.out.2.2.1.sv H6.out.1.sv (by have := HLN.out; omega)).mono ?_
    rintro e w7 ⟨rfl, q7, hw7⟩
    have hb7 : Below w6.heap.size w6 w7 := by rw [hw7]; exact below_drewN (Below.refl _ _) q7
    have H7 := Lib.hid (show OwnS w7 w1.heap.size v1 (mkS 1 P.length) ∧ Below w.heap.size w w7 from ⟨H6.out.2.1.below hb7, H6.out.2.2.2.trans (hb7.mono H6.out.2.2.2.size)⟩)
    clear hw7 hb7
    go_wp2_with fail
    refine (KH.out _ H7.out.1).mono ?_
    rintro e w8 ⟨rfl, hb8⟩
    have HF := Lib.hid (H7.out.2.trans (hb8.mono H7.out.2.size))
    clear hb8
    go_wp2_with fail
    go_ret
    exact ⟨rfl, HF.out⟩

end Go.Proofs.YtegcbbmbmchagaaDoor
