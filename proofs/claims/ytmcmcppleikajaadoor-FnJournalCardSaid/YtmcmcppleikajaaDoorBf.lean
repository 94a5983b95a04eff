/- RecoverJournal: the program's, of any text. -/
import Derived.Test.YtmcmcppleikajaaDoorBe
import Derived.Lib.ItoaLen
import Derived.Deep.Cut
namespace Go.Proofs.YtmcmcppleikajaaDoor
open Go.RowKit
set_option maxRecDepth 100000
set_option linter.unusedVariables false
set_option linter.unusedSimpArgs false

/-- What is recovered of a text. -/
def RcPost (w : World) (s : ByteArray) (e : Ending) (w' : World) : Prop :=
  Below w.heap.size w w' ∧ ((12000 < s.size ∧ e = .returned (.tuple #[.slice none 0 0, .int .i64 0, .bool false])) ∨ (s.size ≤ 12000 ∧ ∃ g cap, e = .returned (.tuple #[.slice (some ⟨g, 0, none⟩) (recJ 0 (lnsL s.data.toList)).1.length cap, .int .i64 ((recJ 0 (lnsL s.data.toList)).2 : Nat), .bool true]) ∧ OwnS w' w.heap.size (.slice (some ⟨g, 0, none⟩) (recJ 0 (lnsL s.data.toList)).1.length cap) (recJ 0 (lnsL s.data.toList)).1))
theorem digits_le {n : Nat} (h : n < 65003) : (Lib.decDigits n).length ≤ 21 := by
  have h1 := Lib.itoa_length_le (n : Int) (by omega) (by omega)
  rwa [Lib.itoa_nonneg] at h1
theorem ba_sz (l : List UInt8) : (⟨l.toArray⟩ : ByteArray).size = l.length := by simp [ByteArray.size]

set_option maxHeartbeats 4000000 in
theorem iRecJ_any (w : World) (s : ByteArray) (m : Int) (hs : s.size ≤ 2000000) (hm : w.cell? ⟨0, 0, none⟩ = some (.int .i64 m)) (ht : TabT w) :
    Calls Tryd.prog 9 #[.string s] w (RcPost w s) := by
  obtain ⟨n, hnn⟩ : ∃ n, s.size = n := ⟨_, rfl⟩
  by_cases hbig : 12000 < n
  · have h1 : (12000 : Int) < (n : Int) := by omega
    go_enter Tryd.func9, Tryd.ntmps9
    go_wp2_with fail
    go_ret3
    exact ⟨Below.refl _ _, .inl ⟨by omega, rfl⟩⟩
  have h1 : ¬ (12000 : Int) < (n : Int) := by omega
  obtain ⟨j0, hj0, hy0, hy1, hy2⟩ := info_parts info_strT
  have hml := World.block_lt_of_cell? _ _ hm
  have HM := Lib.hid (fun W (hb : Below w.heap.size w W) => (show W.cell? ⟨0, 0, none⟩ = some (.int .i64 m) from (hb.cell (p := ⟨0, 0, none⟩) hml).trans hm))
  have HT := Lib.hid ht
  have HO0 := Lib.hid (OwnS.start w w.heap.size (Nat.le_refl _))
  have hb0 : Below w.heap.size w (w.alloc (.cells #[] 9)) := (Below.refl _ _).alloc (Nat.le_refl _) _
  have HB0 := Lib.hid hb0
  obtain ⟨l, hl⟩ : ∃ l, l = s.data.toList := ⟨_, rfl⟩
  have hn : l.length = n := by rw [hl, ← hnn]; exact ba_size s
  have HL := Lib.hid hl
  have HN := Lib.hid hn
  have HS := Lib.hid hnn
  obtain ⟨R1, hR1⟩ : ∃ R1, R1 = (recJ 0 (lnsL l)).1 := ⟨_, rfl⟩
  obtain ⟨R2, hR2⟩ : ∃ R2, R2 = (recJ 0 (lnsL l)).2 := ⟨_, rfl⟩
  have HR := Lib.hid (And.intro hR1 hR2)
  have HF0 : ∀ e w', (Below w.heap.size w w' ∧ ∃ g cap, e = .returned (.tuple #[.slice (some ⟨g, 0, none⟩) R1.length cap, .int .i64 (R2 : Nat), .bool true]) ∧ OwnS w' w.heap.size (.slice (some ⟨g, 0, none⟩) R1.length cap) R1) → RcPost w s e w' := by
    rintro e w' ⟨h1, h2⟩
    refine ⟨h1, .inr ⟨by omega, ?_⟩⟩
    rw [← hl, ← hR1, ← hR2]
    exact h2
  have HF := Lib.hid HF0
  have hn12 : n ≤ 12000 := by omega
  clear hb0 hl hn hR1 hR2 hm ht hbig HF0
  go_enter Tryd.func9, Tryd.ntmps9
  go_wp2_with fail
  go_loopw [5, 6, 7] (fun v5 v6 v7 wr => ∃ (k A z g cap : Nat) (P : List (List UInt8)), v5 = .slice (some ⟨g, 0, none⟩) k cap ∧ v6 = .int .i64 A ∧ v7 = .int .i64 z ∧ P.length = k ∧ k ≤ A ∧ A ≤ n ∧ z < 65003 ∧ OwnS wr w.heap.size (.slice (some ⟨g, 0, none⟩) k cap) P ∧ Below w.heap.size w wr ∧ P ++ (recJ z (lnsL (l.drop A))).1 = R1 ∧ A + (recJ z (lnsL (l.drop A))).2 = R2) (fun _ v6 _ _ => n + 1 - (intOf v6).toNat)
  case atStart => exact ⟨0, 0, 0, _, _, [], rfl, rfl, rfl, rfl, Nat.zero_le _, Nat.zero_le _, by omega, HO0.out, HB0.out, by rw [List.drop_zero, HR.out.1]; rfl, by rw [List.drop_zero, HR.out.2]; omega⟩
  case round =>
    clear HO0 HB0
    obtain ⟨k, A, z, g, cap, P, rfl, rfl, rfl, hPk, hkn, hA, hz, hown, hb, hr1, hr2⟩ := hrel
    have HOW := Lib.hid hown
    have HB := Lib.hid hb
    have HRR := Lib.hid (And.intro hr1 hr2)
    have HPK := Lib.hid hPk
    have HZ := Lib.hid hz
    have hrow : wr.ownsRow w.heap.size 9 1 (.slice (some ⟨g, 0, none⟩) k cap) k (sCells P) := by
      have h9 := hown
      unfold OwnS at h9
      rwa [hPk] at h9
    have hbn := hb.size
    have hAI : (A : Int) ≤ (n : Int) := by omega
    have htr := HT.out.below hb
    have hmr := HM.out wr hb
    clear hown hb hr1 hr2 hPk
    obtain ⟨x, hx⟩ : ∃ x, s.extract A n = x := ⟨_, rfl⟩
    have hxl : x.data.toList = l.drop A := by rw [← hx, ext_list, HL.out, List.take_of_length_le (by rw [ba_size, HS.out]; exact Nat.le_refl _)]
    have KI := Tryd.strings_IndexByte x 10 wr
    rw [hxl, show ((10 : Int).toNat.toUInt8) = 10 from rfl] at KI
    have HTM := Lib.hid (And.intro htr hmr)
    clear htr hmr
    rcases byte_split 10 (l.drop A) with ⟨hi, hno⟩ | ⟨i, hi, hil, hsp, hno⟩
    · rw [hi] at KI
      have hend : P = R1 ∧ A = R2 := by
        have h2 := lns_none hno
        have h3 := HRR.out
        rw [h2] at h3
        simpa [recJ] using h3
      have HE := Lib.hid hend
      have KI := Lib.hid KI
      clear hi hno hend hxl
      go_wp2_with fail
      refine KI.out.mono ?_
      rintro e w1 ⟨rfl, hw1⟩
      rw [hw1]
      clear hw1 w1
      go_wp2_with fail
      go_ret3
      refine HF.out _ _ ⟨HB.out, g, cap, ?_, ?_⟩
      · rw [← HE.out.1, ← HE.out.2, HPK.out]; rfl
      · rw [← HE.out.1, HPK.out]; exact HOW.out
    · rw [hi] at KI
      obtain ⟨E, hE⟩ : ∃ E, A + i = E := ⟨_, rfl⟩
      have hln : (l.drop A).length = n - A := by rw [List.length_drop, HN.out]
      have hEn : E < n := by omega
      have e1 : IntKind.i64.wrap ((A : Int) + (i : Int)) = (E : Int) := by rw [show (A : Int) + (i : Int) = (E : Int) by omega]; exact IntWalk.i64_in _ (by omega)
      have e0 : decide ((i : Int) < 0) = false := decide_eq_false (by omega)
      have hEI : (E : Int) ≤ (n : Int) := by omega
      have hAE : (A : Int) ≤ (E : Int) := by omega
      obtain ⟨p, hp⟩ : ∃ p, s.extract A E = p := ⟨_, rfl⟩
      obtain ⟨pl, hpl⟩ : ∃ pl, pl = (l.drop A).take i := ⟨_, rfl⟩
      have hpd : p.data.toList = pl := by rw [← hp, ext_list, ← HL.out, hpl, List.drop_take, show E - A = i by omega]
      have hplen : pl.length = i := by rw [hpl, List.length_take]; omega
      have hrest : lnsL (l.drop A) = pl :: lnsL (l.drop (E + 1)) := by
        rw [hsp, ← hpl]
        rw [← hpl] at hno
        rw [lns_hit hno, List.drop_drop, show A + (i + 1) = E + 1 by omega]
      have KC := Tryd.strings_Cut p ⟨#[32]⟩ m wr (by rw [← ba_size, hpd, hplen]; omega) HTM.out.2
      rw [hpd, show (⟨#[32]⟩ : ByteArray).data.toList = [32] from rfl, cut_blank] at KC
      have HPL := Lib.hid (And.intro hpd (And.intro hplen hrest))
      have KI := Lib.hid KI
      have hiI : (i : Int) ≤ 12000 := by omega
      have HE := Lib.hid hE
      clear hi hil hsp hno hxl hpl hrest hpd hln hE
      by_cases hbl : spI pl < pl.length
      case neg =>
        rw [if_neg hbl] at KC
        have hpp : (⟨pl.toArray⟩ : ByteArray) = p := (ba_of HPL.out.1).symm
        have hend : P = R1 ∧ A = R2 := by
          have h2 := HRR.out
          rw [HPL.out.2.2, recJ_no (by unfold okJ; rw [decide_eq_false hbl]; rfl)] at h2
          simpa using h2
        have HEE := Lib.hid hend
        rw [hpp] at KC
        have KC := Lib.hid KC
        have KK := Lib.hid (fun W => checkOf_any W z ⟨#[]⟩ HZ.out (by decide))
        clear hend hpp hbl
        go_wp2_with fail
        refine KI.out.mono ?_
        rintro e w1 ⟨rfl, hw1⟩
        rw [hw1]
        clear hw1 w1
        go_wp2_with fail
        refine KC.out.mono ?_
        rintro e w1 ⟨rfl, q, rfl⟩
        go_wp2_with fail
        refine (KK.out _).mono ?_
        rintro e w1 ⟨rfl, hw1⟩
        rw [← hw1]
        clear hw1 w1
        go_wp2_with fail
        go_quiet (fail)
        go_wp2_with fail
        go_ret3
        refine HF.out _ _ ⟨HB.out.trans (below_drewN (below_drewN (Below.refl _ _) _) _), g, cap, ?_, ?_⟩
        · rw [← HEE.out.1, ← HEE.out.2, HPK.out]; rfl
        · rw [← HEE.out.1, HPK.out]; exact HOW.out.below (below_drewN (below_drewN (Below.refl _ _) _) _)
      case pos =>
        rw [if_pos hbl] at KC
        obtain ⟨ln, hln⟩ : ∃ ln : ByteArray, ln = ⟨(linB pl).toArray⟩ := ⟨_, rfl⟩
        have hlnl : (linB pl).length ≤ i := by unfold linB; rw [List.length_drop]; omega
        have hlns : ln.size ≤ 12000 := by rw [hln, ba_sz]; omega
        have hlnd : ln.data.toList = linB pl := by rw [hln]
        obtain ⟨z2, hz2⟩ : ∃ z2, z2 = ckF z (linB pl) := ⟨_, rfl⟩
        have hz2l : z2 < 65003 := by rw [hz2]; exact ckF_lt HZ.out _
        have KK := Lib.hid (fun W => checkOf_any W z ln HZ.out (by omega))
        rw [hlnd, ← hz2] at KK
        rw [← hln] at KC
        have KC := Lib.hid KC
        have KD := Lib.hid (fun W (hb : Below wr.heap.size wr W) => dec_all W z2 (by omega) (HTM.out.1.below hb))
        obtain ⟨D, hD⟩ : ∃ D : ByteArray, D = ⟨(Lib.decDigits z2).toArray⟩ := ⟨_, rfl⟩
        have hDs : D.size ≤ 21 := by rw [hD, ba_sz]; exact digits_le hz2l
        rw [← hD] at KD
        have hok := okJ_text (z := z) hbl
        rw [← hz2] at hok
        have hq : ((D ++ ⟨#[32]⟩ ++ ln).toList == p.toList) = okJ z pl := by
          rw [ba_beq, hok, decide_eq_decide]
          constructor
          · intro e
            have := congrArg (fun b : ByteArray => b.data.toList) e
            simp only [ba_app, HPL.out.1, hlnd] at this
            rw [hD] at this
            exact this
          · intro e
            apply ByteArray.ext
            apply Array.ext'
            show (D ++ ⟨#[32]⟩ ++ ln).data.toList = p.data.toList
            rw [ba_app, ba_app, HPL.out.1, hlnd, hD]
            exact e
        obtain ⟨bb, hbb⟩ : ∃ bb, okJ z pl = bb := ⟨_, rfl⟩
        rw [hbb] at hq
        have HOKJ := Lib.hid (And.intro hln (And.intro hz2 (And.intro hlnd hbb)))
        have hDI : (D.size : Int) ≤ 21 := by omega
        have hlI : (ln.size : Int) ≤ 12000 := by omega
        have g1 : (9223372036854775807 < D.size + 1) = False := eq_false (by omega)
        have g2 : (9223372036854775807 < D.size + 1 + ln.size) = False := eq_false (by omega)
        clear hbl hlnl hlnd hln hz2 hD hok hbb
        go_wp2_with fail
        refine KI.out.mono ?_
        rintro e w1 ⟨rfl, hw1⟩
        rw [hw1]
        clear hw1 w1
        go_wp2_with fail
        refine KC.out.mono ?_
        rintro e w1 ⟨rfl, q, rfl⟩
        go_wp2_with fail
        refine (KK.out _).mono ?_
        rintro e w1 ⟨rfl, hw1⟩
        rw [← hw1]
        clear hw1 w1
        go_upto_region 8 with fail
        obtain ⟨wq, hwq⟩ : ∃ wq, wq = wr.drewN q := ⟨_, rfl⟩
        have hbq : Below wr.heap.size wr wq := by rw [hwq]; exact below_drewN (Below.refl _ _) q
        rw [← hwq]
        clear hwq
        have HBQ := Lib.hid hbq
        have SB := Lib.hid (fun V (h : Below wq.heap.size wq V) => hbq.trans (h.mono hbq.size))
        have hd1 : Below wq.heap.size wq wq.drew := below_drewN (Below.refl _ _) 1
        go_region_held3 (fun V => Below wq.heap.size wq V)
          (first | (with_reducible exact Below.refl _ _) | (with_reducible assumption) | exact hd1.trans (hbd.mono hd1.size) | exact hbd | go_keep)
          (first
            | (go_at_call 18; (with_reducible refine (KD.out _ (SB.out _ ?_)).mono ?_); (focus (first | (with_reducible exact Below.refl _ _) | (with_reducible assumption))); rintro e wd ⟨rfl, hbd⟩))
        have hbD : Below wr.heap.size wr wd := SB.out _ (by first | exact hbd | exact hd1.trans (hbd.mono hd1.size))
        have HBD := Lib.hid hbD
        have hDn := hbD.size
        have hrow2 := World.ownsRow.kept hrow (grown_below hbD none) (by simp [Value.ownBlock])
        clear hd1 hbd hbD hq
        cases bb
        · have hend : P = R1 ∧ A = R2 := by
            have h2 := HRR.out
            rw [HPL.out.2.2, recJ_no HOKJ.out.2.2.2] at h2
            simpa using h2
          have HEE := Lib.hid hend
          clear hend hrow2
          go_wp2_with fail
          go_ret3
          refine HF.out _ _ ⟨HB.out.trans (HBD.out.mono hbn), g, cap, ?_, ?_⟩
          · rw [← HEE.out.1, ← HEE.out.2, HPK.out]; rfl
          · rw [← HEE.out.1, HPK.out]; exact HOW.out.below HBD.out
        · have hnx := HRR.out
          rw [HPL.out.2.2, recJ_yes HOKJ.out.2.2.2, ← HOKJ.out.2.1] at hnx
          have HNX := Lib.hid hnx
          have hk3 : k ≤ 12000 := by omega
          clear hnx
          go_wp2_with (at_builtin; refine wpList_append_lies _ (by rfl) _ _ _ (by rfl) w.heap.size 9 j0 _ 1 16 Tryd.underlying24 hj0 hy0 hy1 hy2 rfl (by omega) (.slice (some ⟨g, 0, none⟩) k cap) k _ (by rfl) (World.ownsRow.alloc hrow2 _) ⟨wd.heap.size, 0, none⟩ 1 1 [.string ln] (by rfl) (by rfl) (cell_one_new _ _ _) (by simp [Value.oneCell']) (by omega) (by unfold maxLen; omega) (by omega) (by simp; omega) (wd.heap.size + 1) (by simp) ?_; intro g3 cap3 w2 hown2 hgrow hat hltg)
          have e5 : IntKind.i64.wrap ((E : Int) + 1) = ((E + 1 : Nat) : Int) := by rw [show (E : Int) + 1 = ((E + 1 : Nat) : Int) by omega]; exact IntWalk.i64_in _ (by omega)
          have HR2 := Lib.hid (And.intro hown2 (And.intro hgrow hat))
          clear hown2 hgrow hat
          go_wp2_with fail
          go_roundw
          case rel =>
            obtain ⟨hown2, hgrow, hat⟩ := HR2.out
            have hb2 : Below w.heap.size w w2 := ((HB.out.trans (HBD.out.mono hbn)).alloc (by omega) _).grown hgrow (by simp; omega) (fun k' hk => (HOW.out.lt hk).1)
            have ho2 : OwnS w2 w.heap.size (.slice (some ⟨g3, 0, none⟩) (k + 1) cap3) (P ++ [linB pl]) := own_snocS HPK.out (by rw [← HOKJ.out.1]; exact hown2)
            refine ⟨k + 1, E + 1, z2, g3, cap3, P ++ [linB pl], rfl, by go_num, rfl, by rw [List.length_append, HPK.out]; rfl, by omega, by omega, hz2l, ho2, hb2, ?_, ?_⟩
            · rw [List.append_assoc]; exact HNX.out.1
            · have h1 := HNX.out.2
              rw [HPL.out.2.1] at h1
              have := HE.out
              omega
          case measure => simp [intOf]; omega

end Go.Proofs.YtmcmcppleikajaaDoor
