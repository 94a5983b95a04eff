/- The program's reading of one number: impl.readNumber. -/
import Derived.Test.YtjibghjongplpaaDoorCz
import Derived.Test.YtjibghjongplpaaDoorSj
import Derived.Test.YtjibghjongplpaaDoorCi
namespace Go.Proofs.YtjibghjongplpaaDoor
section
open Go.RowKit
set_option maxRecDepth 100000
set_option linter.unusedVariables false
set_option linter.unusedSimpArgs false

def digI (b : Nat) : Int := match hexV b with
  | some d => (d : Int)
  | none => -1
theorem hex_find : ∀ b : Nat, b < 256 → Lib.indexByte [48, 49, 50, 51, 52, 53, 54, 55, 56, 57, 97, 98, 99, 100, 101, 102] ((b : Int).toNat.toUInt8) = digI b := by decide +kernel
theorem hexFind_any (W : World) (b : Nat) (hb : b < 256) : Calls Tryd.prog 55 #[.string ⟨#[48, 49, 50, 51, 52, 53, 54, 55, 56, 57, 97, 98, 99, 100, 101, 102]⟩, .int .u8 (b : Int)] W fun e w' => e = .returned (.int .i64 (digI b)) ∧ w' = W := by
  have := Tryd.strings_IndexByte ⟨#[48, 49, 50, 51, 52, 53, 54, 55, 56, 57, 97, 98, 99, 100, 101, 102]⟩ (b : Int) W
  rwa [show (⟨#[48, 49, 50, 51, 52, 53, 54, 55, 56, 57, 97, 98, 99, 100, 101, 102]⟩ : ByteArray).data.toList = [48, 49, 50, 51, 52, 53, 54, 55, 56, 57, 97, 98, 99, 100, 101, 102] from rfl, hex_find b hb] at this

set_option maxHeartbeats 2000000 in
theorem readNum_any (w : World) (q : ByteArray) (p : List UInt8) (hq : (⟨p.toArray⟩ : ByteArray) = q) (hs : p.length ≤ 2000000) :
    Calls Tryd.prog 36 #[.string q] w fun e w' => (∃ x, e = .returned (.tuple #[.float .f32 x, .bool (valH p).2]) ∧ ((valH p).2 = true → x = (valH p).1)) ∧ w = w' := by
  obtain ⟨r, hr⟩ : ∃ r, r = valH p := ⟨_, rfl⟩
  rw [← hr]
  have HR := Lib.hid hr
  clear hr
  have hqs : q.size = p.length := by rw [← hq]; exact (ba_size _).symm
  obtain ⟨n, hn⟩ : ∃ n, p.length = n := ⟨_, rfl⟩
  rw [hn] at hqs hs
  have HQ := Lib.hid hq
  have HN := Lib.hid hn
  have HQS := Lib.hid hqs
  clear hq hn
  go_enter Tryd.func36, Tryd.ntmps36
  go_wp2_with fail
  go_loopw [4, 5, 6, 11] (fun v4 _ _ v11 wr => ∃ (k m : Nat), v11 = .int .i64 k ∧ k ≤ n ∧ k ≤ 8 ∧ v4 = .int .i64 m ∧ Hid (accH (p.take k) 0 = some m ∧ m < 4294967296) ∧ wr = w) (fun _ _ _ v11 _ => n - (intOf v11).toNat)
  case atStart => exact ⟨0, 0, rfl, by omega, by omega, rfl, ⟨rfl, by omega⟩, rfl⟩
  case round =>
    obtain ⟨k, m, rfl, hk, hk8, rfl, HM, rfl⟩ := hrel
    have hmI : (m : Int) ≤ 4294967295 := by have := HM.out.2; omega
    by_cases hlt : k < n
    · have hkI : (k : Int) < (n : Int) := by omega
      have hx0 : ∀ W', (Instr.index 9 (.string q) (.int .i64 (k : Int))).run Tryd.prog W' = .ok (.int .u8 ((byteN q k : Nat) : Int)) W' := fun W' => by
        have := idx_at W' q (k : Int) (by omega) (by rw [hqs]; omega)
        rwa [Int.toNat_natCast] at this
      have hb := byteN_lt q k
      have hbc := byteN_get HQ.out (k := k) (by rw [HN.out]; exact hlt)
      have hpm := getD_memU (p := p) (k := k) (by rw [HN.out]; exact hlt)
      have htk := take_snocU (p := p) (k := k) (by rw [HN.out]; exact hlt)
      obtain ⟨b, hbb⟩ : ∃ b, byteN q k = b := ⟨_, rfl⟩
      rw [hbb] at hx0 hb hbc
      have KI := Lib.hid (fun W => hexFind_any W b hb)
      cases hv : hexV b with
      | none =>
        have hvf : r.2 = false := by
          rw [HR.out]
          unfold valH
          rw [accH_bad p 0 _ hpm (by rw [← hbc]; exact hv)]
        have HVF := Lib.hid hvf
        have hd : digI b = -1 := by unfold digI; rw [hv]
        rw [hd] at KI
        clear hd hv hvf hpm hbc hbb htk
        go_wp2_with fail
        refine (KI.out _).mono ?_
        rintro e w1 ⟨rfl, rfl⟩
        go_wp2_with fail
        go_ret2
        exact ⟨⟨_, by rw [HVF.out]; rfl, fun h => by rw [HVF.out] at h; cases h⟩, rfl⟩
      | some d =>
        have hd : digI b = (d : Int) := by unfold digI; rw [hv]
        rw [hd] at KI
        have hd16 := hexV_lt hv
        have hm2 : accH (p.take (k + 1)) 0 = some (16 * m + d) := by
          rw [htk, accH_snoc, HM.out.1]
          simp only [Option.bind_some]
          rw [← hbc, hv]
          rfl
        have hdI : (d : Int) < 16 := by omega
        have hd0 : decide ((d : Int) < 0) = false := decide_eq_false (by omega)
        by_cases h8 : k = 8
        · have hvf : r.2 = false := by
            rw [HR.out]
            unfold valH
            split
            · rw [if_neg (fun h => by have := h.1; rw [HN.out] at this; omega)]
            · rfl
          have hk8I : ((k : Int) == 8) = true := by rw [h8]; rfl
          have HVF := Lib.hid hvf
          clear hd hv hvf hpm hbc hbb htk h8 hd16 hm2
          go_wp2_with fail
          refine (KI.out _).mono ?_
          rintro e w1 ⟨rfl, rfl⟩
          go_wp2_with fail
          go_ret2
          exact ⟨⟨_, by rw [HVF.out]; rfl, fun h => by rw [HVF.out] at h; cases h⟩, rfl⟩
        · have hk8I : ((k : Int) == 8) = false := by rw [beq_eq_false_iff_ne]; omega
          have hk7 : k + 1 ≤ 8 := by omega
          have hlt2 := accH_lt _ 0 0 _ (by simp) hm2
          rw [List.length_take, HN.out, Nat.min_eq_left (by omega)] at hlt2
          have hlt3 : 16 * m + d < 4294967296 := Nat.lt_of_lt_of_le hlt2 (Nat.le_trans (Nat.pow_le_pow_right (by omega) (show 0 + (k + 1) ≤ 8 by omega)) (by decide))
          have HM3 := Lib.hid (And.intro hm2 hlt3)
          have HK7 := Lib.hid hk7
          have hgI : ((m : Int) * 16 + (d : Int)) = ((16 * m + d : Nat) : Int) := by push_cast; omega
          obtain ⟨M, hM⟩ : ∃ M, 16 * m + d = M := ⟨_, rfl⟩
          rw [hM] at hgI HM3
          have hMI : (M : Int) ≤ 4294967295 := by have := HM3.out.2; omega
          have hMI0 : 0 ≤ (M : Int) := by omega
          clear hd hv hpm hbc hbb htk h8 hd16 hm2 hlt2 hlt3 hM hk7 hk8
          go_wp2_with fail
          refine (KI.out _).mono ?_
          rintro e w1 ⟨rfl, rfl⟩
          go_wp2_with fail
          go_roundw
          case rel => exact ⟨k + 1, M, by go_num, by omega, HK7.out, rfl, HM3.out, trivial⟩
          case measure => simp [intOf]; omega
    · obtain rfl : k = n := by omega
      have htk8 : p.take k = p := List.take_of_length_le (by rw [HN.out]; exact Nat.le_refl _)
      have hvv : valH p = if p.length = 8 ∧ fl m = m then (m, true) else (0, false) := by
        unfold valH
        have := HM.out.1
        rw [htk8] at this
        rw [this]
      have KF := Lib.hid (fun W => fromBits_ok m W HM.out.2)
      have KB := Lib.hid (fun W => bitsOf_any m W HM.out.2)
      rw [HN.out] at hvv
      by_cases h8 : k = 8
      · have hk8I : ((k : Int) == 8) = true := by rw [h8]; rfl
        obtain ⟨z, hz⟩ : ∃ z, fl m = z := ⟨_, rfl⟩
        rw [hz] at hvv KB
        have hdz : ((z : Int) == (m : Int)) = decide (z = m) := by rw [Bool.eq_iff_iff, beq_iff_eq, decide_eq_true_eq]; omega
        have hr2 : r = if z = m then (m, true) else (0, false) := by rw [HR.out, hvv]; simp [h8]
        have HR2 := Lib.hid hr2
        clear hvv hz h8 htk8 hr2
        go_wp2_with fail
        refine (KF.out _).mono ?_
        rintro e w1 ⟨rfl, rfl⟩
        go_wp2_with fail
        refine (KB.out _).mono ?_
        rintro e w1 ⟨rfl, rfl⟩
        go_wp2_with fail
        go_ret2
        rw [HR2.out]
        by_cases hzm : z = m
        · rw [if_pos hzm]
          exact ⟨⟨_, by rw [decide_eq_true hzm]; rfl, fun _ => rfl⟩, rfl⟩
        · rw [if_neg hzm]
          exact ⟨⟨_, by rw [decide_eq_false hzm]; rfl, fun h => by cases h⟩, rfl⟩
      · have hk8I : ((k : Int) == 8) = false := by rw [beq_eq_false_iff_ne]; omega
        have hvf : r.2 = false := by rw [HR.out, hvv, if_neg (fun h => h8 h.1)]
        have HVF := Lib.hid hvf
        clear hvv h8 htk8 hvf
        go_wp2_with fail
        refine (KF.out _).mono ?_
        rintro e w1 ⟨rfl, rfl⟩
        go_wp2_with fail
        go_ret2
        exact ⟨⟨_, by rw [HVF.out]; rfl, fun h => by rw [HVF.out] at h; cases h⟩, rfl⟩
end

section
open Go.RowKit
set_option maxRecDepth 100000
set_option linter.unusedVariables false
set_option linter.unusedSimpArgs false

/-- The parts of a text between commas; none, if it is the text of no items. -/
def prtL (t : List UInt8) : List (List UInt8) := if t = noneT then [] else cutL 44 t
theorem prt_mem_le {t : List UInt8} (p : List UInt8) (h : p ∈ prtL t) : p.length ≤ t.length := by
  unfold prtL at h
  split at h
  · cases h
  · exact cutL_mem_le t p h
theorem prt_count (t : List UInt8) : (prtL t).length ≤ t.length + 1 := by
  unfold prtL
  split
  · simp
  · exact cutL_count 44 t
theorem lstR_prt (t : List UInt8) : lstR t = if (prtL t).length ≤ 64 ∧ (prtL t).all (fun p => (valD p).2) = true then ((prtL t).map fun p => (valD p).1, true) else ([], false) := by
  unfold lstR prtL
  by_cases h : t = noneT
  · rw [if_pos h, if_pos h]; simp
  · rw [if_neg h, if_neg h]
theorem numR_prt (t : List UInt8) : numR t = if (prtL t).length ≤ 256 ∧ (prtL t).all (fun p => (valH p).2) = true then ((prtL t).map fun p => (valH p).1, true) else ([], false) := by
  unfold numR prtL
  by_cases h : t = noneT
  · rw [if_pos h, if_pos h]; simp
  · rw [if_neg h, if_neg h]
theorem OwnS.made (w : World) (P : List (List UInt8)) (hm : P.length ≤ maxLen) : OwnS (w.alloc (.cells (sCells P).toArray 9)) w.heap.size (.slice (some ⟨w.heap.size, 0, none⟩) P.length P.length) P :=
  ⟨by simp [sCells], .inr ⟨w.heap.size, P.length, (sCells P).toArray, rfl, Nat.le_refl _, heap_alloc_new w _, Nat.le_refl _, hm, by simp [sCells], by rw [List.take_of_length_le (by simp [sCells])]⟩⟩

set_option maxHeartbeats 2000000 in
theorem parted_any (w : World) (s : ByteArray) (m : Int) (hs : s.size ≤ 2000000) (hm : w.cell? ⟨1, 0, none⟩ = some (.int .i64 m)) :
    Calls Tryd.prog 35 #[.string s] w fun e w' => ∃ v, e = .returned v ∧ OwnS w' w.heap.size v (prtL s.data.toList) ∧ Below w.heap.size w w' := by
  by_cases hno : s.data.toList = noneT
  · have hr : prtL s.data.toList = [] := by unfold prtL; rw [if_pos hno]
    rw [hr]
    have hs2 : s = ⟨noneT.toArray⟩ := ba_of hno
    subst hs2
    clear hr hno hs hm
    go_enter Tryd.func35, Tryd.ntmps35
    go_wp2_with fail
    go_ret
    exact ⟨_, rfl, World.ownsRow_nil w _ _ _, Below.refl _ _⟩
  · have hne : (s.toList == [110, 111, 110, 101]) = false := by
      rw [beq_eq_false_iff_ne, ba_toList]; exact hno
    have hr : prtL s.data.toList = cutL 44 s.data.toList := by unfold prtL; rw [if_neg hno]
    have hspl := Tryd.strings_Split s ⟨#[44]⟩ m w (by omega) hm (Nat.le_refl _)
    rw [splitB_cutL] at hspl
    have hcnt : Lib.countB s ⟨#[44]⟩ + 1 = (cutL 44 s.data.toList).length := by
      rw [cutL_len]
      have : Lib.countB s ⟨#[44]⟩ = s.data.toList.count 44 := Lib.count_one 44 _
      omega
    rw [hcnt] at hspl
    rw [hr]
    have hc := cutL_count 44 s.data.toList
    rw [ba_size] at hc
    obtain ⟨P, hP⟩ : ∃ P, P = cutL 44 s.data.toList := ⟨_, rfl⟩
    rw [← hP] at hspl hc ⊢
    have HM := Lib.hid (OwnS.made w P (by unfold maxLen; omega))
    have hb : Below w.heap.size w (w.alloc (.cells (sCells P).toArray 9)) := (Below.refl _ _).alloc (Nat.le_refl _) _
    have HB := Lib.hid hb
    have e : (P.map fun l => (⟨l.toArray⟩ : ByteArray)).map Value.string = sCells P := by rw [List.map_map]; rfl
    rw [e] at hspl
    have KS := Lib.hid hspl
    clear e
    clear hspl hr hcnt hc hP hno hs hm hb
    go_enter Tryd.func35, Tryd.ntmps35
    go_wp2_with fail
    refine KS.out.mono ?_
    rintro e w1 ⟨rfl, rfl⟩
    go_wp2_with fail
    go_ret
    exact ⟨_, rfl, HM.out, HB.out⟩
end

end Go.Proofs.YtjibghjongplpaaDoor
