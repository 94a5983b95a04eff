/- A picture's text. -/
import Derived.Test.YtkifhajkmgeafaaUd
import Derived.Test.YtkifhajkmgeafaaNum
import Derived.Test.YtkifhajkmgeafaaPic
import Derived.Test.YtkifhajkmgeafaaSame
import Derived.Deep.RegionHeld3
import Derived.BigRegion
import Derived.StillTactics
import Derived.Deep.CutRange
namespace Go.Proofs.Ytkifhajkmgeafaa
open Go.RowKit
set_option maxRecDepth 100000
set_option linter.unusedVariables false
set_option linter.unusedSimpArgs false

theorem isB_below {T e : TypeId} {B b : Nat} {l : List Value} {w w' : World} (h : Lib.IsBuilder T e B b l w) (hb : Below w.heap.size w w') : Lib.IsBuilder T e B b l w' := by
  have key : ∀ p, Lib.BuilderAt T e B b p l w → Lib.BuilderAt T e B b p l w' := by
    rintro p ⟨hB, v, hbk, hown, hne⟩
    exact ⟨hB, v, by rw [hb.block b (lt_of_block hbk)]; exact hbk, World.ownsRow.kept hown (grown_below hb none) (by cases v.ownBlock <;> simp), hne⟩
  rcases h with h | h
  · exact .inl (key _ h)
  · exact .inr (key _ h)
/-- A picture's bytes. -/
def stoL (wd hi : Nat) (bs : List Nat) : List UInt8 := [69, 89, 69, 49] ++ leB wd 1 ++ leB hi 1 ++ bs.flatMap fun b => leB (fl b) 4
def stoI (wd hi : Nat) (bs : List Nat) (i : Nat) : List UInt8 := [69, 89, 69, 49] ++ leB wd 1 ++ leB hi 1 ++ (bs.take i).flatMap fun b => leB (fl b) 4
theorem flat4_len (bs : List Nat) : (bs.flatMap fun b => leB (fl b) 4).length = 4 * bs.length := by
  induction bs with
  | nil => rfl
  | cons b l ih => rw [List.flatMap_cons, List.length_append, leB_len, ih, List.length_cons]; omega
theorem stoI_len (wd hi : Nat) (bs : List Nat) (i : Nat) : (stoI wd hi bs i).length ≤ 6 + 4 * bs.length := by
  unfold stoI
  rw [List.length_append, List.length_append, List.length_append, leB_len, leB_len, flat4_len, List.length_take]
  simp; omega
theorem byteCells_app (a b : List UInt8) : Lib.byteCells (a ++ b) = Lib.byteCells a ++ Lib.byteCells b := Lib.byteCells_append a b

theorem strCells_app (a b : ByteArray) : Lib.strCells (a ++ b) = Lib.strCells a ++ Lib.strCells b := by unfold Lib.strCells; simp
theorem stoI_step (wd hi : Nat) {bs : List Nat} {i : Nat} (h : i < bs.length) : stoI wd hi bs (i + 1) = stoI wd hi bs i ++ leB (fl (bs.getD i 0)) 4 := by
  have e : bs.take (i + 1) = bs.take i ++ [bs.getD i 0] := by rw [List.take_add_one, List.getElem?_eq_getElem h, List.getD_eq_getElem?_getD, List.getElem?_eq_getElem h]; rfl
  unfold stoI
  rw [e, List.flatMap_append, List.flatMap_cons, List.flatMap_nil, List.append_nil]
  simp only [List.append_assoc]

set_option maxHeartbeats 2000000 in
theorem stored_any (w : World) (wd hi q c n : Nat) (bs : List Nat) (hl : bs.length = n) (hw : wd ≤ 24) (hh : hi ≤ 24) (hn : n ≤ 600) (hs : SlF w (.slice (some ⟨q, 0, none⟩) n c) bs) :
    Calls Try.prog 33 #[.agg #[.int .i64 wd, .int .i64 hi, .slice (some ⟨q, 0, none⟩) n c]] w fun e w' => e = .returned (.string ⟨(stoL wd hi bs).toArray⟩) ∧ Below w.heap.size w w' := by
  obtain ⟨W0, hW0⟩ : ∃ W0, W0 = (w.alloc (.cells #[.int .i64 wd, .int .i64 hi, .slice (some ⟨q, 0, none⟩) n c] 41)).alloc (.cells #[.pointer none, .slice none 0 0] 92) := ⟨_, rfl⟩
  have hb0 : Below w.heap.size w W0 := by rw [hW0]; exact below_two w _ _
  have hX : Box3 W0 w.heap.size (.int .i64 wd) (.int .i64 hi) (.slice (some ⟨q, 0, none⟩) n c) 41 := by rw [hW0]; exact box_first w _ _ _ _ _
  have hI : Lib.IsBuilder 92 5 (w.heap.size + 1) (w.heap.size + 1) [] W0 := by
    rw [hW0]
    have := Lib.fresh_isBuilder 92 5 (w.alloc (.cells #[.int .i64 wd, .int .i64 hi, .slice (some ⟨q, 0, none⟩) n c] 41))
    simpa using this
  have hsz : W0.heap.size = w.heap.size + 2 := by rw [hW0]; simp
  obtain ⟨c0, c1, c2, -, -, -⟩ := hX.cells
  have CELLS := Lib.hid (show ∀ W, Below (w.heap.size + 1) W0 W → Below (w.heap.size + 1) W0 W ∧ W.cell? ⟨w.heap.size, 0, none⟩ = some (.int .i64 wd) ∧ W.cell? ⟨w.heap.size, 1, none⟩ = some (.int .i64 hi) from fun W hW => by
    obtain ⟨u0, u1, u2, -, -, -⟩ := (Box3.cells (w := W) (b := w.heap.size) (by unfold Box3; rw [hW.block _ (by omega)]; exact hX))
    exact ⟨hW, u0, u1⟩)
  have KB := Lib.hid (fun W (hW : Below W0.heap.size W0 W) (n : Nat) (hn : n < 4294967296) => (show Calls Try.prog 35 #[.int .i64 n, .int .i64 1] W (fun e w' => e = .returned (.string ⟨(leB n 1).toArray⟩) ∧ Below W0.heap.size W0 w') from (bytesOf_any W n 1 hn (by omega)).mono (by rintro e w' ⟨rfl, hb⟩; exact ⟨rfl, hW.trans (hb.mono hW.size)⟩)))
  have KS := Lib.hid (fun W (hW : Below W0.heap.size W0 W) (s : ByteArray) (hs : s.size ≤ 1000) => writeString_any (w.heap.size + 1) (w.heap.size + 1) [] s W (isB_below hI hW) (by simp; omega) (by have := hW.size; omega))
  have HW0 := Lib.hid hW0
  have HB0 := Lib.hid hb0
  have HX := Lib.hid hX
  have HS := Lib.hid (hs.below hb0)
  have hz0 : ({ data := #[69, 89, 69, 49] } : ByteArray).size = 4 := rfl
  have hz1 : ({ data := (leB wd 1).toArray } : ByteArray).size = 1 := by show (leB wd 1).toArray.size = 1; simp [leB_len]
  have hz2 : ({ data := (leB hi 1).toArray } : ByteArray).size = 1 := by show (leB hi 1).toArray.size = 1; simp [leB_len]
  have hA0 : Below W0.heap.size W0 W0.drew := below_drewN (Below.refl _ _) 1
  have HSW := Lib.hid hs
  clear hW0 hb0 hX hI hs
  go_enter Try.func33, Try.ntmps33
  go_upto_region 2 with fail
  rw [← HW0.out]
  go_region_held3 (fun W => Below (w.heap.size + 1) W0 W ∧ W.cell? ⟨w.heap.size, 0, none⟩ = some (.int .i64 wd) ∧ W.cell? ⟨w.heap.size, 1, none⟩ = some (.int .i64 hi))
    (first | (refine CELLS.out _ ?_; first | exact hbS1 | exact hbA.mono (by omega) | exact hbB.mono (by omega) | exact hA0.mono (by omega)) | go_keep)
    ((first
      | (go_at_call 35; (with_reducible refine (KB.out _ hA0 wd (by omega)).mono ?_); rintro e wA ⟨rfl, hbA⟩)
      | (go_at_call 35; (with_reducible refine (KB.out _ hA0 hi (by omega)).mono ?_); rintro e wB ⟨rfl, hbB⟩)
      | (go_at_call 35; (with_reducible refine (KB.out _ hbB wd (by omega)).mono ?_); rintro e wA ⟨rfl, hbA⟩)
      | (go_at_call 35; (with_reducible refine (KB.out _ hbA hi (by omega)).mono ?_); rintro e wB ⟨rfl, hbB⟩)
      | (go_at_call 62; first
          | ((with_reducible refine (KS.out _ hbA _ (by simp [hz0, hz1, hz2])).mono ?_); rintro e wS ⟨rfl, hIS, hbS⟩; have hbS1 := (hbA.mono (show w.heap.size + 1 ≤ W0.heap.size by omega)).trans hbS)
          | ((with_reducible refine (KS.out _ hbB _ (by simp [hz0, hz1, hz2])).mono ?_); rintro e wS ⟨rfl, hIS, hbS⟩; have hbS1 := (hbB.mono (show w.heap.size + 1 ≤ W0.heap.size by omega)).trans hbS))))
  have hI2 : Lib.IsBuilder 92 5 (w.heap.size + 1) (w.heap.size + 1) (Lib.byteCells (stoI wd hi bs 0)) wS := by
    have e : Lib.byteCells (stoI wd hi bs 0) = [] ++ Lib.strCells ({ data := #[69, 89, 69, 49] } ++ { data := (leB wd 1).toArray } ++ { data := (leB hi 1).toArray }) := by
      rw [strCells_app, strCells_app]
      unfold stoI
      rw [List.take_zero, List.flatMap_nil, List.append_nil, byteCells_app, byteCells_app, List.nil_append]
      rfl
    rw [e]; exact hIS
  have HI2 := Lib.hid hI2
  have HS1 := Lib.hid hbS1
  obtain ⟨u0, u1, u2, -, -, -⟩ := (Box3.cells (w := wS) (b := w.heap.size) (by unfold Box3; rw [hbS1.block _ (by omega)]; exact HX.out))
  clear hI2 hIS hbS hbS1 hbA hbB c0 c1 c2
  go_wp2_with fail
  clear u0 u1 u2
  go_loopw [19] (fun v19 wz => ∃ i : Nat, v19 = .int .i64 i ∧ i ≤ n ∧ Lib.IsBuilder 92 5 (w.heap.size + 1) (w.heap.size + 1) (Lib.byteCells (stoI wd hi bs i)) wz ∧ Below (w.heap.size + 1) W0 wz) (fun v19 _ => n - (intOf v19).toNat)
  case atStart => exact ⟨0, rfl, Nat.zero_le _, HI2.out, HS1.out⟩
  case round =>
    clear HI2 HS1
    obtain ⟨i, rfl, hi_, hib, hbz⟩ := hrel
    have HIB := Lib.hid hib
    have HBZ := Lib.hid hbz
    have hbt : Below w.heap.size w wr := HB0.out.trans (hbz.mono (by omega))
    by_cases hlt : i < n
    · have kc := ((HSW.out.below hbt).cellAt i (by rw [hl]; exact hlt)).1
      have kl := ((HSW.out.below hbt).cellAt i (by rw [hl]; exact hlt)).2
      rw [Nat.zero_add] at kc
      have hst := stoI_step wd hi (bs := bs) (i := i) (by rw [hl]; exact hlt)
      have hsl := stoI_len wd hi bs i
      rw [hl] at hsl
      have hiI : (i : Int) < (n : Int) := by omega
      have hsz4 := hbz.size
      generalize hb : bs.getD i 0 = b at *
      have HST := Lib.hid hst
      clear hst hib hbz hbt
      have hfl : fl b < 4294967296 := fl_lt kl
      go_wp2_with fail
      refine (bitsOf_any b _ kl).mono ?_
      rintro e w' ⟨rfl, rfl⟩
      go_wp2_with fail
      refine (bytesOf_any _ (fl b) 4 hfl (by omega)).mono ?_
      rintro e w2 ⟨rfl, hb2⟩
      have hib2 := isB_below HIB.out hb2
      have hbz2 := HBZ.out.trans (hb2.mono (show w.heap.size + 1 ≤ wr.heap.size by omega))
      have HBZ2 := Lib.hid hbz2
      clear hb2
      go_wp2_with fail
      refine (writeString_any _ _ _ _ _ hib2 (by rw [Lib.byteCells_length]; show _ + (leB (fl b) 4).toArray.size ≤ _; rw [List.size_toArray, leB_len]; omega) (by have := hbz2.size; omega)).mono ?_
      rintro e w3 ⟨rfl, hib3, hb3⟩
      have HIB3 := Lib.hid hib3
      have HB3 := Lib.hid (HBZ2.out.trans hb3)
      clear hib2 hbz2 hib3 hb3
      go_wp2_with fail
      go_roundw
      case rel => exact ⟨i + 1, by go_num, by omega, by rw [HST.out, byteCells_app]; exact HIB3.out, HB3.out⟩
      case measure => simp [intOf]; omega
    · obtain rfl : n = i := by omega
      have hst : stoI wd hi bs n = stoL wd hi bs := by unfold stoI stoL; rw [← hl, List.take_length]
      rw [hst] at hib
      have hsz4 := hbz.size
      clear hbz hbt
      go_wp2_with fail
      refine (LayBuilder_String_any _ _ _ _ hib (by omega)).mono ?_
      rintro e w2 ⟨rfl, hb2⟩
      go_wp2_with fail
      go_ret
      exact ⟨rfl, HB0.out.trans ((HBZ.out.trans hb2).mono (by omega))⟩

end Go.Proofs.Ytkifhajkmgeafaa
