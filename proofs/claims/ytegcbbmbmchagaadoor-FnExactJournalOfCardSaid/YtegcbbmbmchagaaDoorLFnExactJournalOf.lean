/- The law FnExactJournalOf: its walk. -/
import Derived.Test.YtegcbbmbmchagaaDoorBl
namespace Go.Proofs.YtegcbbmbmchagaaDoor
open Go.RowKit
set_option maxRecDepth 100000
set_option linter.unusedVariables false
set_option linter.unusedSimpArgs false

theorem sumZ_each {xs : List ByteArray} {x : ByteArray} (h : x ∈ xs) : x.size ≤ sumZ xs := by
  obtain ⟨i, hi, rfl⟩ := List.getElem_of_mem h
  have h1 := sumZ_mem (xs := xs) (i := i) (List.getElem?_eq_getElem hi)
  have h2 := sumZ_take xs (i + 1)
  omega

set_option maxHeartbeats 4000000 in
theorem fnExactJournalOf_walk (w : World) (v : Value) (xs : List ByteArray) (h : SlS w v xs) (hsz : ∀ x ∈ xs, x.size ≤ 9223372036854775807) (hl : xs.length ≤ 9223372036854775807) (ht : TabT w) :
    Calls Tryd.prog 4 #[v] w fun e w' => e = .returned (.bool true) ∧ Below w.heap.size w w' := by
  have KZ := Lib.hid (szS_any w v xs h hsz hl)
  have HV := Lib.hid (And.intro h ht)
  clear h hsz hl ht
  go_enter Tryd.func4, Tryd.ntmps4
  go_wp2_with fail
  refine KZ.out.mono ?_
  rintro e w1 ⟨hb1, ⟨hfit, k, rfl⟩ | ⟨hbig, rfl⟩⟩
  case inr =>
    have HB := Lib.hid hb1
    clear hb1 KZ hbig
    go_wp2_with fail
    go_ret
    exact ⟨rfl, HB.out⟩
  have hn : xs.length ≤ 1048576 := by omega
  have KT := Lib.hid (fun W (hb : Below w.heap.size w W) => toS_any W v xs (HV.out.1.below hb) hn)
  obtain ⟨P, hP⟩ : ∃ P, P = bytesL xs := ⟨_, rfl⟩
  have hPl : P.length = xs.length := by rw [hP]; exact bytesL_len xs
  have hPm : ∀ p ∈ P, p.length ≤ 1048576 := fun p hp => by
    rw [hP] at hp
    obtain ⟨x, hx, rfl⟩ := List.mem_map.1 hp
    have := sumZ_each hx
    rw [ba_size]; omega
  obtain ⟨n, hnn⟩ : ∃ n, xs.length = n := ⟨_, rfl⟩
  have HKT := Lib.hid (fun W e w' (h : MakesS W xs e w') => (show ∃ g, e = .returned (.slice (some ⟨g, 0, none⟩) n n) ∧ OwnS w' W.heap.size (.slice (some ⟨g, 0, none⟩) n n) P ∧ Below W.heap.size W w' by
    unfold MakesS at h; rw [hnn, ← hP] at h; exact h))
  rw [hnn] at hPl hn
  have KS := Lib.hid (fun W g (hst : StrAt W g P) => sJournalOf_any W g n n P hst hPl hn hPm)
  have KI := Lib.hid (fun W g (hst : StrAt W g P) (hb : Below w.heap.size w W) => iJournalOf_any W g n n P hst hPl hn hPm (HV.out.2.below hb))
  have hkd : ¬ (k : Int) < 0 := by omega
  obtain ⟨J, hJ⟩ : ∃ J : ByteArray, J = ⟨(jTxt P).toArray⟩ := ⟨_, rfl⟩
  obtain ⟨bk, hbk⟩ : ∃ bk, bk = jOk P := ⟨_, rfl⟩
  have HJR := Lib.hid (fun W e w' (h : JrPost W P e w') => (show e = .returned (.tuple #[.string J, .bool bk]) ∧ Below W.heap.size W w' by
    rw [hJ, hbk]; exact h))
  have hPL := Lib.hid hPl
  have hJJ : (J.toList == J.toList) = true := by simp
  have hkk : (bk != bk) = false := by simp
  have H1 := Lib.hid hb1
  have HNI := Lib.hid hn
  clear hb1 hfit hP hnn hPm hJ hbk KZ hPl hn
  go_wp2_with fail
  refine (KT.out _ H1.out).mono ?_
  intro e w2 h
  obtain ⟨g1, rfl, o1, hb2⟩ := HKT.out _ _ _ h
  have H2 := Lib.hid (And.intro o1.strAt (H1.out.trans (hb2.mono H1.out.size)))
  clear h o1 hb2
  go_wp2_with fail
  refine (KS.out _ g1 H2.out.1).mono ?_
  intro e w3 h
  obtain ⟨rfl, hb3⟩ := HJR.out _ _ _ h
  have H3 := Lib.hid (H2.out.2.trans (hb3.mono H2.out.2.size))
  clear h hb3
  go_wp2_with fail
  refine (KT.out _ H3.out).mono ?_
  intro e w4 h
  obtain ⟨g2, rfl, o2, hb4⟩ := HKT.out _ _ _ h
  have H4 := Lib.hid (And.intro o2 (H3.out.trans (hb4.mono H3.out.size)))
  clear h o2 hb4
  go_wp2_with fail
  refine (KI.out _ g2 H4.out.1.strAt H4.out.2).mono ?_
  intro e w5 h
  obtain ⟨rfl, hb5⟩ := HJR.out _ _ _ h
  have H5 := Lib.hid (And.intro (H4.out.1.below hb5) (H4.out.2.trans (hb5.mono H4.out.2.size)))
  clear h hb5
  go_wp2_with fail
  refine (KT.out _ H5.out.2).mono ?_
  intro e w6 h
  obtain ⟨g3, rfl, o3, hb6⟩ := HKT.out _ _ _ h
  have H6 := Lib.hid (And.intro (H5.out.1.below hb6) (And.intro o3 (H5.out.2.trans (hb6.mono H5.out.2.size))))
  clear h o3 hb6
  go_wp2_with fail
  refine (eqS_any w6 _ _ P H6.out.1.sv H6.out.2.1.sv (by have := hPL.out; have := HNI.out; omega)).mono ?_
  rintro e w7 ⟨rfl, q, hw7⟩
  have HF := Lib.hid (show Below w.heap.size w w7 by rw [hw7]; exact below_drewN H6.out.2.2 q)
  clear hw7
  go_wp2_with fail
  go_ret
  exact ⟨rfl, HF.out⟩

end Go.Proofs.YtegcbbmbmchagaaDoor
