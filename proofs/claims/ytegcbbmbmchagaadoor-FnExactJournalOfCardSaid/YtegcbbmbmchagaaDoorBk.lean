/- JournalOf: the reference's, of any lines. -/
import Derived.Test.YtegcbbmbmchagaaDoorBj
import Derived.StillTactics
import Derived.Deep.RegionHeld3
namespace Go.Proofs.YtegcbbmbmchagaaDoor
open Go.RowKit
set_option maxRecDepth 100000
set_option linter.unusedVariables false
set_option linter.unusedSimpArgs false

theorem jrnT {P : List (List UInt8)} {p : List UInt8} {i : Nat} (hp : P[i]? = some p) : jrn 0 (P.take (i + 1)) = jrn 0 (P.take i) ++ entJ (zJ 0 (P.take i)) p ∧ zJ 0 (P.take (i + 1)) = ckF (zJ 0 (P.take i)) p := by
  rw [take_snocJ hp, jrn_snoc, zJ_snoc]; exact ⟨rfl, rfl⟩
theorem getD_some {P : List (List UInt8)} {p : List UInt8} {i : Nat} (h : i < P.length) (hp : P.getD i [] = p) : P[i]? = some p := by
  rw [← hp, List.getD_eq_getElem?_getD, List.getElem?_eq_getElem h]; rfl
theorem sumJ_take (P : List (List UInt8)) (i : Nat) : sumJ (P.take i) ≤ sumJ P := by
  have h2 : sumJ P = sumJ (P.take i) + sumJ (P.drop i) := by rw [← sumJ_app, List.take_append_drop]
  omega

set_option maxHeartbeats 4000000 in
theorem s08Journal_any (w : World) (g n c : Nat) (P : List (List UInt8)) (h : StrAt w g P) (hn : P.length = n) (hs : sumJ P ≤ 12000) :
    Calls Tryd.prog 19 #[.slice (some ⟨g, 0, none⟩) n c] w fun e w' => e = .returned (.string ⟨(jrn 0 P).toArray⟩) ∧ Below w.heap.size w w' := by
  have hlen := sumJ_len P
  rw [hn] at hlen
  have hnI : (n : Int) ≤ 12000 := by omega
  have HS := Lib.hid h
  have HN := Lib.hid hn
  have HSU := Lib.hid hs
  clear h hn hs
  go_enter Tryd.func19, Tryd.ntmps19
  go_wp2_with fail
  go_loopw [3, 4, 5] (fun v3 v4 v5 wr => ∃ (i : Nat) (T : ByteArray), v3 = .string T ∧ v4 = .int .i64 (zJ 0 (P.take i) : Nat) ∧ v5 = .int .i64 i ∧ i ≤ n ∧ T.data.toList = jrn 0 (P.take i) ∧ Below w.heap.size w wr) (fun _ _ v5 _ => n - (intOf v5).toNat)
  case atStart => exact ⟨0, ⟨#[]⟩, rfl, rfl, rfl, Nat.zero_le _, rfl, Below.refl _ _⟩
  case round =>
    obtain ⟨i, T, rfl, rfl, rfl, hi, hT, hb⟩ := hrel
    have HB := Lib.hid hb
    have HT := Lib.hid hT
    by_cases hlt : i < n
    · have hltI : (i : Int) < (n : Int) := by omega
      have hsw := HS.out.below hb
      have hgl := hsw.1
      have c1 := hsw.2 i (by rw [HN.out]; exact hlt)
      obtain ⟨p, hp⟩ : ∃ p, P.getD i [] = p := ⟨_, rfl⟩
      rw [hp] at c1
      have hpi := getD_some (by rw [HN.out]; exact hlt) hp
      obtain ⟨hj, hz⟩ := jrnT hpi
      obtain ⟨x, hx⟩ : ∃ x : ByteArray, x = ⟨p.toArray⟩ := ⟨_, rfl⟩
      have hxd : x.data.toList = p := by rw [hx]
      rw [← hx] at c1
      have hsum := sumJ_take P (i + 1)
      rw [take_snocJ hpi, sumJ_snoc] at hsum
      have hsu := HSU.out
      have hxs : x.size ≤ 12000 := by rw [← ba_size, hxd]; omega
      have hz0 := zJ_lt (P.take i) 0 (by omega)
      have hTs : T.size ≤ 300000 := by
        rw [← ba_size, hT]
        have h1 := jrn_le (P.take i) 0 (by omega)
        have h2 : (P.take i).length ≤ 12000 := by rw [List.length_take, HN.out]; omega
        omega
      obtain ⟨z, hzz⟩ : ∃ z, zJ 0 (P.take i) = z := ⟨_, rfl⟩
      rw [hzz] at hz hj hz0 ⊢
      obtain ⟨z2, hz2⟩ : ∃ z2, ckF z p = z2 := ⟨_, rfl⟩
      have hz2l : z2 < 65003 := by rw [← hz2]; exact ckF_lt hz0 _
      rw [hz2] at hz
      have KC := Lib.hid (fun W => s01Check_any W z x hz0 (by omega))
      rw [hxd, hz2] at KC
      have KD := Lib.hid (fun W => s01Dec_any W z2 (by omega))
      obtain ⟨D, hD⟩ : ∃ D : ByteArray, D = ⟨(Lib.decDigits z2).toArray⟩ := ⟨_, rfl⟩
      have hDs : D.size ≤ 21 := by rw [hD, ← ba_size]; exact digits_leJ hz2l
      rw [← hD] at KD
      have g1 : (9223372036854775807 < D.size + 1) = False := eq_false (by omega)
      have g2 : (9223372036854775807 < D.size + 1 + x.size) = False := eq_false (by omega)
      have g3 : (9223372036854775807 < D.size + 1 + x.size + 1) = False := eq_false (by omega)
      have g4 : (9223372036854775807 < T.size + (D.size + 1 + x.size + 1)) = False := eq_false (by omega)
      have HJ := Lib.hid (show (T ++ (D ++ ⟨#[32]⟩ ++ x ++ ⟨#[10]⟩)).data.toList = jrn 0 (P.take (i + 1)) by
        rw [ba_app, ba_app, ba_app, ba_app, hj, HT.out, hxd, hD]
        unfold entJ
        rw [hz2])
      have HZ := Lib.hid hz
      have hbn := hb.size
      clear hb hT hp hpi hj hz hzz hz2 hx hsum hD hxd hsw hsu
      go_wp2_with fail
      (with_reducible refine (KC.out _).mono ?_)
      rintro e w3 ⟨rfl, hw3⟩
      rw [← hw3]
      clear hw3 w3
      go_upto_region 7 with fail
      have hd1 : Below wr.heap.size wr wr.drew := below_drewN (Below.refl _ _) 1
      have SV := Lib.hid (fun V (h : Below wr.heap.size wr V) => (show Below wr.heap.size wr V ∧ V.cell? ⟨g, i, none⟩ = some (.string x) from ⟨h, (h.cell (p := ⟨g, i, none⟩) hgl).trans c1⟩))
      go_region_held3 (fun V => Below wr.heap.size wr V ∧ V.cell? ⟨g, i, none⟩ = some (.string x))
        (first | (refine SV.out _ ?_; first | (with_reducible exact Below.refl _ _) | (with_reducible assumption) | exact hd1.trans (hbd.mono hd1.size) | exact hbd) | go_keep)
        (first
          | (go_at_call 34; (with_reducible refine (KD.out _).mono ?_); rintro e wd ⟨rfl, hbd⟩))
      have hbD : Below wr.heap.size wr wd := by first | exact hbd | exact hd1.trans (hbd.mono hd1.size)
      have HBD := Lib.hid (HB.out.trans (hbD.mono hbn))
      clear hd1 hbd hbD c1
      go_wp2_with fail
      go_roundw
      case rel => exact ⟨i + 1, _, rfl, by rw [HZ.out], by go_num, by omega, HJ.out, HBD.out⟩
      case measure => simp [intOf]; omega
    · obtain rfl : n = i := by omega
      have ht : P.take n = P := by rw [← HN.out, List.take_length]
      rw [ht] at hT ⊢
      have hTT : T = ⟨(jrn 0 P).toArray⟩ := ba_of hT
      have HF := Lib.hid hTT
      clear ht hb hT hTT HT
      go_wp2_with fail
      go_ret
      rw [← HF.out]
      exact ⟨rfl, HB.out⟩

theorem noNl_of {p : List UInt8} (h : ∀ j, j < p.length → p[j]? ≠ some 10) : noNl p = true := by
  unfold noNl
  rw [Bool.not_eq_true']
  cases hc : p.contains 10
  · rfl
  · have hm : (10 : UInt8) ∈ p := by simpa using hc
    obtain ⟨j, hj, he⟩ := List.getElem_of_mem hm
    exact absurd (by rw [List.getElem?_eq_getElem hj, he]) (h j hj)
theorem noNl_no {p : List UInt8} {j : Nat} (h : p[j]? = some 10) : noNl p = false := by
  unfold noNl
  have hm : (10 : UInt8) ∈ p := List.mem_of_getElem? h
  have : p.contains 10 = true := by simpa using hm
  rw [this]; rfl
def JrPost (w : World) (P : List (List UInt8)) (e : Ending) (w' : World) : Prop := e = .returned (.tuple #[.string ⟨(jTxt P).toArray⟩, .bool (jOk P)]) ∧ Below w.heap.size w w'
theorem JrPost.no {w w' : World} {P : List (List UInt8)} (h : jOk P = false) (hb : Below w.heap.size w w') : JrPost w P (.returned (.tuple #[.string ⟨#[]⟩, .bool false])) w' := by
  refine ⟨?_, hb⟩
  unfold jTxt
  rw [h]; rfl
theorem all_take {P : List (List UInt8)} {p : List UInt8} {i : Nat} (hp : P[i]? = some p) (h : (P.take i).all noNl = true) (h2 : noNl p = true) : (P.take (i + 1)).all noNl = true := by
  rw [take_snocJ hp, List.all_append, h]
  simp [h2]

set_option maxHeartbeats 4000000 in
theorem sJournalOf_any (w : World) (g n c : Nat) (P : List (List UInt8)) (h : StrAt w g P) (hn : P.length = n) (hn2 : n ≤ 1048576) (hs : ∀ p ∈ P, p.length ≤ 1048576) :
    Calls Tryd.prog 9 #[.slice (some ⟨g, 0, none⟩) n c] w (JrPost w P) := by
  have hnI : (n : Int) ≤ 1048576 := by omega
  have HS := Lib.hid h
  have HN := Lib.hid hn
  have HSU := Lib.hid hs
  clear h hn hs
  go_enter Tryd.func9, Tryd.ntmps9
  go_wp2_with fail
  go_loopw [4, 5] (fun v4 v5 wr => ∃ i t : Nat, v4 = .int .i64 t ∧ v5 = .int .i64 i ∧ i ≤ n ∧ t = sumJ (P.take i) ∧ t ≤ 12000 ∧ (P.take i).all noNl = true ∧ wr = w) (fun _ v5 _ => n - (intOf v5).toNat)
  case atStart => exact ⟨0, 0, rfl, rfl, Nat.zero_le _, by simp [sumJ], by omega, by simp, rfl⟩
  case round =>
    obtain ⟨i, t, rfl, rfl, hi, ht, ht2, hall, rfl⟩ := hrel
    have HT := Lib.hid ht
    have HALL := Lib.hid hall
    have htI : (t : Int) ≤ 12000 := by omega
    clear ht hall
    by_cases hlt : i < n
    · have hltI : (i : Int) < (n : Int) := by omega
      have c1 := HS.out.2 i (by rw [HN.out]; exact hlt)
      obtain ⟨p, hp⟩ : ∃ p, P.getD i [] = p := ⟨_, rfl⟩
      rw [hp] at c1
      have hpi := getD_some (by rw [HN.out]; exact hlt) hp
      obtain ⟨x, hx⟩ : ∃ x : ByteArray, x = ⟨p.toArray⟩ := ⟨_, rfl⟩
      rw [← hx] at c1
      obtain ⟨pn, hpn⟩ : ∃ pn, p.length = pn := ⟨_, rfl⟩
      have hxs : x.size = pn := by rw [hx, ← ba_size, ← hpn]
      have hpl : pn ≤ 1048576 := by rw [← hpn]; exact HSU.out p (List.mem_of_getElem? hpi)
      have hpnI : (pn : Int) ≤ 1048576 := by omega
      have hsn : sumJ (P.take (i + 1)) = t + (pn + 3) := by rw [take_snocJ hpi, sumJ_snoc, ← HT.out, hpn]
      have HP := Lib.hid (And.intro hpi (And.intro hx (And.intro hpn hsn)))
      obtain ⟨t2, ht3⟩ : ∃ t2, t + (pn + 3) = t2 := ⟨_, rfl⟩
      have HT3 := Lib.hid ht3
      clear hp hpi hx hpn hsn ht3 hpl
      by_cases hbig : 12000 < t2
      · have e3 : (12000 : Int) < (t : Int) + ((pn : Int) + 3) := by have := HT3.out; omega
        go_wp2_with fail
        go_ret2
        exact JrPost.no (jOk_sum (i := i + 1) (by rw [HP.out.2.2.2, HT3.out]; exact hbig)) (Below.refl _ _)
      · have e3 : (t : Int) + ((pn : Int) + 3) ≤ 12000 := by have := HT3.out; omega
        go_wp2_with fail
        go_loopw [6] (fun v6 wq => ∃ k : Nat, v6 = .int .i64 k ∧ k ≤ pn ∧ (∀ j, j < k → p[j]? ≠ some 10) ∧ wq = wr) (fun v6 _ => pn - (intOf v6).toNat)
        case atStart => exact ⟨0, rfl, Nat.zero_le _, fun j hj => by omega, rfl⟩
        case round =>
          obtain ⟨k, rfl, hk, hno, hwq⟩ := hrel
          have HNO := Lib.hid hno
          have HWQ := Lib.hid hwq
          have c1q := c1
          rw [← hwq] at c1q
          clear hno hwq
          by_cases hkl : k < pn
          · have hkI : (k : Int) < (pn : Int) := by omega
            have hx0 : ∀ W', (Instr.index 9 (.string x) (.int .i64 (k : Int))).run Tryd.prog W' = .ok (.int .u8 ((byteN x k : Nat) : Int)) W' := fun W' => by
              have := idx_at W' x (k : Int) (by omega) (by rw [hxs]; omega)
              rwa [Int.toNat_natCast] at this
            have hb1 : ((byteN x k : Int) == 10) = decide (p[k]? = some 10) := by
              rw [HP.out.2.1]
              exact byteN_eq (s := ⟨p.toArray⟩) (c := 10) (by rw [← ba_size, show (⟨p.toArray⟩ : ByteArray).data.toList = p from rfl, HP.out.2.2.1]; exact hkl)
            obtain ⟨b, hb⟩ : ∃ b, byteN x k = b := ⟨_, rfl⟩
            rw [hb] at hx0 hb1
            cases hd : decide (p[k]? = some 10)
            · rw [hd] at hb1
              have hne : p[k]? ≠ some 10 := of_decide_eq_false hd
              have HNE := Lib.hid hne
              clear hd hne hb
              go_wp2_with fail
              go_roundw
              case rel => exact ⟨k + 1, by go_num, by omega, fun j hj => by
                by_cases hjk : j = k
                · subst hjk; exact HNE.out
                · exact HNO.out j (by omega), HWQ.out⟩
              case measure => simp [intOf]; omega
            · rw [hd] at hb1
              have HNL := Lib.hid (jOk_nl (List.mem_of_getElem? HP.out.1) (noNl_no (of_decide_eq_true hd)))
              have hb3 : (b : Int) = 10 := by simpa using hb1
              clear hd hb
              go_wp2_with fail
              go_ret2
              rw [HWQ.out]
              exact JrPost.no HNL.out (Below.refl _ _)
          · obtain rfl : pn = k := by omega
            have HAL := Lib.hid (all_take HP.out.1 HALL.out (noNl_of (by rw [HP.out.2.2.1]; exact HNO.out)))
            go_wp2_with fail
            go_roundw
            case rel => exact ⟨i + 1, t2, by rw [← HT3.out]; go_num, by go_num, by omega, by rw [HP.out.2.2.2, HT3.out], by omega, HAL.out, HWQ.out⟩
            case measure => simp [intOf]; omega
    · obtain rfl : n = i := by omega
      have htk : P.take n = P := by rw [← HN.out, List.take_length]
      have hA := HALL.out
      have hT := HT.out
      rw [htk] at hA hT
      have KJ := Lib.hid (s08Journal_any wr g n c P HS.out HN.out (by omega))
      obtain ⟨J, hJ⟩ : ∃ J : ByteArray, J = ⟨(jrn 0 P).toArray⟩ := ⟨_, rfl⟩
      have hJs : J.size = (jrn 0 P).length := by rw [hJ, ← ba_size]
      rw [← hJ] at KJ
      have hjl := jrn_le P 0 (by omega)
      have hJ3 : (J.size : Int) ≤ 30000000 := by rw [HN.out] at hjl; omega
      have hok : jOk P = decide ((jrn 0 P).length ≤ 12000) := by unfold jOk; rw [hA, Bool.true_and]
      rw [← hJs] at hok
      have HJ := Lib.hid (And.intro hJ hok)
      clear hA hT htk hJs hjl hok hJ
      by_cases hbig : 12000 < J.size
      · have e3 : (12000 : Int) < (J.size : Int) := by omega
        go_wp2_with fail
        refine KJ.out.mono ?_
        rintro e w2 ⟨rfl, hb2⟩
        have HB2 := Lib.hid hb2
        clear hb2
        go_wp2_with fail
        go_ret2
        exact JrPost.no (by rw [HJ.out.2]; exact decide_eq_false (by omega)) HB2.out
      · have e3 : ¬ (12000 : Int) < (J.size : Int) := by omega
        go_wp2_with fail
        refine KJ.out.mono ?_
        rintro e w2 ⟨rfl, hb2⟩
        have HB2 := Lib.hid hb2
        clear hb2
        go_wp2_with fail
        go_ret2
        have hk : jOk P = true := by rw [HJ.out.2]; exact decide_eq_true (by omega)
        refine ⟨?_, HB2.out⟩
        unfold jTxt
        rw [hk, if_pos rfl, ← HJ.out.1]; rfl

end Go.Proofs.YtegcbbmbmchagaaDoor
