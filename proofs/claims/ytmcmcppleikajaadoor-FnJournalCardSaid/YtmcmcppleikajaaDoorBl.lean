/- JournalOf: the program's, of any lines. -/
import Derived.Test.YtmcmcppleikajaaDoorBk
import Derived.Test.YtmcmcppleikajaaDoorUd
namespace Go.Proofs.YtmcmcppleikajaaDoor
open Go.RowKit
set_option maxRecDepth 100000
set_option linter.unusedVariables false
set_option linter.unusedSimpArgs false

theorem isB_belowJ {T u : TypeId} {B b : Nat} {l : List Value} {w w' : World} (h : Lib.IsBuilder T u B b l w) (hb : Below w.heap.size w w') : Lib.IsBuilder T u B b l w' := by
  have key : ∀ p, Lib.BuilderAt T u B b p l w → Lib.BuilderAt T u B b p l w' := by
    rintro p ⟨hB, v, hbk, hown, hne⟩
    exact ⟨hB, v, by rw [hb.block b (lt_of_block hbk)]; exact hbk, World.ownsRow.kept hown (grown_below hb none) (by cases v.ownBlock <;> simp), hne⟩
  rcases h with h | h
  · exact .inl (key _ h)
  · exact .inr (key _ h)
theorem byteCells_appJ (a b : List UInt8) : Lib.byteCells (a ++ b) = Lib.byteCells a ++ Lib.byteCells b := Lib.byteCells_append a b
theorem nl_index (p : List UInt8) : decide (0 ≤ Lib.indexByte p 10) = !noNl p := by
  rcases byte_split 10 p with ⟨h1, h2⟩ | ⟨i, h1, h2, h3, h4⟩
  · rw [h1]
    have : noNl p = true := noNl_of fun j hj e => by
      rw [List.getElem?_eq_getElem hj] at e
      injection e with e
      exact h2 _ (List.getElem_mem hj) e
    rw [this]; rfl
  · rw [h1]
    have h5 : p[i]? = some 10 := by
      rw [h3, List.getElem?_append_right (by rw [List.length_take]; omega), List.length_take, show i - min i p.length = 0 by omega]; rfl
    rw [noNl_no h5]
    simp

set_option maxHeartbeats 4000000 in
theorem iJournalOf_any (w : World) (g n c : Nat) (P : List (List UInt8)) (h : StrAt w g P) (hn : P.length = n) (hn2 : n ≤ 1048576) (hs : ∀ p ∈ P, p.length ≤ 1048576) (ht : TabT w) :
    Calls Tryd.prog 7 #[.slice (some ⟨g, 0, none⟩) n c] w (JrPost w P) := by
  have hnI : (n : Int) ≤ 1048576 := by omega
  obtain ⟨W0, hW0⟩ : ∃ W0, W0 = w.alloc (.cells #[.pointer none, .slice none 0 0] 47) := ⟨_, rfl⟩
  have hb0 : Below w.heap.size w W0 := by rw [hW0]; exact (Below.refl _ _).alloc (Nat.le_refl _) _
  have hI : Lib.IsBuilder 47 5 w.heap.size w.heap.size [] W0 := by
    rw [hW0]; exact Lib.fresh_isBuilder 47 5 w
  have HS := Lib.hid h
  have HN := Lib.hid hn
  have HSU := Lib.hid hs
  have HT := Lib.hid ht
  have HI0 := Lib.hid (And.intro hI hb0)
  have HW0 := Lib.hid hW0
  clear h hn hs ht hb0 hI hW0
  go_enter Tryd.func7, Tryd.ntmps7
  go_wp2_with fail
  rw [← HW0.out]
  go_loopw [5, 11] (fun v5 v11 wr => ∃ i : Nat, v5 = .int .i64 (zJ 0 (P.take i) : Nat) ∧ v11 = .int .i64 i ∧ i ≤ n ∧ (P.take i).all noNl = true ∧ Lib.IsBuilder 47 5 w.heap.size w.heap.size (Lib.byteCells (jrn 0 (P.take i))) wr ∧ Below w.heap.size w wr) (fun _ v11 _ => n - (intOf v11).toNat)
  case atStart => exact ⟨0, rfl, rfl, Nat.zero_le _, by simp, HI0.out.1, HI0.out.2⟩
  case round =>
    clear HI0
    obtain ⟨i, rfl, rfl, hi, hall, hib, hb⟩ := hrel
    have HALL := Lib.hid hall
    have HIB := Lib.hid hib
    have HB := Lib.hid hb
    have hbn := hb.size
    have KL := Tryd.Builder_Len w.heap.size w.heap.size _ wr hib
    rw [Lib.byteCells_length] at KL
    obtain ⟨jl, hjl⟩ : ∃ jl, (jrn 0 (P.take i)).length = jl := ⟨_, rfl⟩
    rw [hjl] at KL
    have KL := Lib.hid KL
    have HJL := Lib.hid hjl
    clear hall hib hjl
    by_cases hlt : i < n
    · have hltI : (i : Int) < (n : Int) := by omega
      have c1 := (HS.out.below hb).2 i (by rw [HN.out]; exact hlt)
      obtain ⟨p, hp⟩ : ∃ p, P.getD i [] = p := ⟨_, rfl⟩
      rw [hp] at c1
      have hpi := getD_some (by rw [HN.out]; exact hlt) hp
      obtain ⟨x, hx⟩ : ∃ x : ByteArray, x = ⟨p.toArray⟩ := ⟨_, rfl⟩
      have hxd : x.data.toList = p := by rw [hx]
      rw [← hx] at c1
      have hxs : x.size = p.length := by rw [← ba_size, hxd]
      have hpl : p.length ≤ 1048576 := HSU.out p (List.mem_of_getElem? hpi)
      obtain ⟨hj, hz⟩ := jrnT hpi
      have hz0 := zJ_lt (P.take i) 0 (by omega)
      obtain ⟨z, hzz⟩ : ∃ z, zJ 0 (P.take i) = z := ⟨_, rfl⟩
      rw [hzz] at hz hj hz0 ⊢
      have KC := Tryd.strings_Contains_one x 10 wr
      rw [hxd, nl_index] at KC
      have HP := Lib.hid (And.intro hpi (And.intro hxd (And.intro hz hj)))
      by_cases hlong : 12000 < p.length
      · have e1 : (12000 : Int) < (x.size : Int) := by omega
        have HF := Lib.hid (jOk_long hpi hlong)
        clear hb hp hpi hj hz hx hxd hzz KC
        go_wp2_with fail
        go_ret2
        exact JrPost.no HF.out HB.out
      · have e1 : ¬ (12000 : Int) < (x.size : Int) := by omega
        cases hnl : noNl p
        · have HF := Lib.hid (jOk_nl (List.mem_of_getElem? hpi) hnl)
          rw [hnl] at KC
          have KC := Lib.hid KC
          clear hb hp hpi hj hz hx hxd hzz hnl
          go_wp2_with fail
          refine KC.out.mono ?_
          rintro e w1 ⟨rfl, hw1⟩
          rw [hw1]
          clear hw1 w1
          go_wp2_with fail
          go_ret2
          exact JrPost.no HF.out HB.out
        · rw [hnl] at KC
          have KC := Lib.hid KC
          by_cases hbig : 12000 < jl
          · have e2 : (12000 : Int) < (jl : Int) := by omega
            have HF := Lib.hid (jOk_part (P := P) (i := i) (by rw [HJL.out]; exact hbig))
            clear hb hp hpi hj hz hx hxd hzz hnl
            go_wp2_with fail
            refine KC.out.mono ?_
            rintro e w1 ⟨rfl, hw1⟩
            rw [hw1]
            clear hw1 w1
            go_wp2_with fail
            refine KL.out.mono ?_
            rintro e w1 ⟨rfl, hw1⟩
            rw [hw1]
            clear hw1 w1
            go_wp2_with fail
            go_ret2
            exact JrPost.no HF.out HB.out
          · have e2 : ¬ (12000 : Int) < (jl : Int) := by omega
            obtain ⟨z2, hz2⟩ : ∃ z2, ckF z p = z2 := ⟨_, rfl⟩
            have hz2l : z2 < 65003 := by rw [← hz2]; exact ckF_lt hz0 _
            rw [hz2] at hz
            have KK := Lib.hid (fun W => checkOf_any W z x hz0 (by omega))
            rw [hxd, hz2] at KK
            have KD := Lib.hid (dec_all wr z2 (by omega) (HT.out.below hb))
            obtain ⟨D, hD⟩ : ∃ D : ByteArray, D = ⟨(Lib.decDigits z2).toArray⟩ := ⟨_, rfl⟩
            have hDs : D.size ≤ 21 := by rw [hD, ← ba_size]; exact digits_leJ hz2l
            rw [← hD] at KD
            have g1 : (9223372036854775807 < D.size + 1) = False := eq_false (by omega)
            have g2 : (9223372036854775807 < D.size + 1 + x.size) = False := eq_false (by omega)
            have g3 : (9223372036854775807 < D.size + 1 + x.size + 1) = False := eq_false (by omega)
            have hent : (D ++ ⟨#[32]⟩ ++ x ++ ⟨#[10]⟩).data.toList = entJ z p := by
              rw [ba_app, ba_app, ba_app, hxd, hD]
              unfold entJ
              rw [hz2]
            have hesz : (D ++ ⟨#[32]⟩ ++ x ++ ⟨#[10]⟩).size ≤ 13000 := by
              rw [← ba_size, hent]
              have := entJ_le hz0 p
              omega
            have HE := Lib.hid (And.intro hent (And.intro hesz (And.intro hz (all_take hpi HALL.out hnl))))
            have HJ := Lib.hid hj
            clear hb hp hpi hj hz hx hxd hzz hnl hz2 hD hent hesz
            go_wp2_with fail
            refine KC.out.mono ?_
            rintro e w1 ⟨rfl, hw1⟩
            rw [hw1]
            clear hw1 w1
            go_wp2_with fail
            refine KL.out.mono ?_
            rintro e w1 ⟨rfl, hw1⟩
            rw [hw1]
            clear hw1 w1
            go_wp2_with fail
            refine (KK.out _).mono ?_
            rintro e w1 ⟨rfl, hw1⟩
            rw [← hw1]
            clear hw1 w1
            go_wp2_with fail
            refine KD.out.mono ?_
            rintro e w2 ⟨rfl, hb2⟩
            have hib2 := isB_belowJ HIB.out hb2
            have HB2 := Lib.hid (HB.out.trans (hb2.mono hbn))
            have hs2 := hb2.size
            have KW := Lib.hid (writeString_any w.heap.size w.heap.size _ (D ++ ⟨#[32]⟩ ++ x ++ ⟨#[10]⟩) w2 hib2 (by rw [Lib.byteCells_length, HJL.out]; have := HE.out.2.1; omega) (by omega))
            clear hib2 hb2
            go_wp2_with fail
            refine KW.out.mono ?_
            rintro e w3 ⟨rfl, hib3, hb3⟩
            have HI3 := Lib.hid (And.intro hib3 hb3)
            clear hib3 hb3
            go_wp2_with fail
            go_roundw
            case rel =>
              refine ⟨i + 1, by rw [HE.out.2.2.1], by go_num, by omega, HE.out.2.2.2, ?_, HB2.out.trans HI3.out.2⟩
              rw [HJ.out, byteCells_appJ]
              have e9 : Lib.byteCells (entJ z p) = Lib.strCells (D ++ ⟨#[32]⟩ ++ x ++ ⟨#[10]⟩) := by rw [← HE.out.1]; rfl
              rw [e9]
              exact HI3.out.1
            case measure => simp [intOf]; omega
    · obtain rfl : n = i := by omega
      have htk : P.take n = P := by rw [← HN.out, List.take_length]
      have hok : jOk P = decide (jl ≤ 12000) := by
        have h1 := HALL.out
        have h2 := HJL.out
        rw [htk] at h1 h2
        unfold jOk; rw [h1, Bool.true_and, h2]
      have hjr : jrn 0 (P.take n) = jrn 0 P := by rw [htk]
      have HO := Lib.hid (And.intro hok hjr)
      clear hok hjr htk hb
      by_cases hbig : 12000 < jl
      · have e2 : (12000 : Int) < (jl : Int) := by omega
        go_wp2_with fail
        refine KL.out.mono ?_
        rintro e w1 ⟨rfl, hw1⟩
        rw [hw1]
        clear hw1 w1
        go_wp2_with fail
        go_ret2
        exact JrPost.no (by rw [HO.out.1]; exact decide_eq_false (by omega)) HB.out
      · have e2 : ¬ (12000 : Int) < (jl : Int) := by omega
        have KT := Lib.hid (Tryd.Builder_String_any w.heap.size w.heap.size _ wr HIB.out hbn)
        go_wp2_with fail
        refine KL.out.mono ?_
        rintro e w1 ⟨rfl, hw1⟩
        rw [hw1]
        clear hw1 w1
        go_wp2_with fail
        refine KT.out.mono ?_
        rintro e w2 ⟨rfl, hb2⟩
        have HB2 := Lib.hid (HB.out.trans hb2)
        clear hb2
        go_wp2_with fail
        go_ret2
        have hk : jOk P = true := by rw [HO.out.1]; exact decide_eq_true (by omega)
        refine ⟨?_, HB2.out⟩
        unfold jTxt
        rw [hk, if_pos rfl, ← HO.out.2]; rfl

end Go.Proofs.YtmcmcppleikajaaDoor
