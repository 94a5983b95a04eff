/- CountOutputs: the reference's and the program's. -/
import Derived.Test.YtegcbbmbmchagaaDoorBc
namespace Go.Proofs.YtegcbbmbmchagaaDoor
open Go.RowKit
set_option maxRecDepth 100000
set_option linter.unusedVariables false
set_option linter.unusedSimpArgs false

def badB (p : List UInt8) : Bool := p == [110, 111] || p == [119, 104, 97, 116]
def cntB (P : List (List UInt8)) : Nat := (P.filter badB).length
theorem cntB_succ {P : List (List UInt8)} {i : Nat} (h : i < P.length) : cntB (P.take (i + 1)) = cntB (P.take i) + if badB (P.getD i []) then 1 else 0 := by
  unfold cntB
  rw [List.take_succ_eq_append_getElem h, List.filter_append, List.length_append, List.getD_eq_getElem?_getD, List.getElem?_eq_getElem h, Option.getD_some]
  cases h : badB P[i] <;> simp [h]
theorem cntB_le (P : List (List UInt8)) (i : Nat) : cntB (P.take i) ≤ i := by
  unfold cntB
  exact Nat.le_trans (List.length_filter_le _ _) (by rw [List.length_take]; omega)

set_option maxHeartbeats 2000000 in
theorem sCount_any (w : World) (s : ByteArray) (hs : s.size ≤ 2000000) :
    Calls Tryd.prog 6 #[.string s] w fun e w' => Below w.heap.size w w' ∧ ((restL s.data.toList ≠ [] ∧ e = .returned (.tuple #[.int .i64 0, .int .i64 0, .bool false])) ∨ (restL s.data.toList = [] ∧ e = .returned (.tuple #[.int .i64 (cntB (lnsL s.data.toList) : Nat), .int .i64 ((lnsL s.data.toList).length - cntB (lnsL s.data.toList) : Nat), .bool true]))) := by
  have K := Lib.hid (s08Lines_any w s hs)
  have hle := lns_le s.data.toList
  rw [ba_size] at hle
  obtain ⟨P, hP⟩ : ∃ P, P = lnsL s.data.toList := ⟨_, rfl⟩
  obtain ⟨r, hr⟩ : ∃ r, r = restL s.data.toList := ⟨_, rfl⟩
  rw [← hP, ← hr] at K ⊢
  rw [← hP] at hle
  obtain ⟨n, hn⟩ : ∃ n, P.length = n := ⟨_, rfl⟩
  rw [hn] at K hle ⊢
  have hnl : (n : Int) ≤ 2000000 := by omega
  have HN := Lib.hid hn
  clear hP hr hn hle
  by_cases hr0 : r = []
  · subst hr0
    go_enter Tryd.func6, Tryd.ntmps6
    go_wp2_with fail
    refine K.out.mono ?_
    rintro e w1 ⟨g, cap, rfl, hst, hb⟩
    have HST := Lib.hid (And.intro hst hb)
    clear hst hb K
    go_wp2_with fail
    go_loopw [7, 8, 9] (fun v7 v8 v9 wr => ∃ i : Nat, v9 = .int .i64 i ∧ i ≤ n ∧ v7 = .int .i64 (cntB (P.take i) : Nat) ∧ v8 = .int .i64 (i - cntB (P.take i) : Nat) ∧ Below w1.heap.size w1 wr) (fun _ _ v9 _ => n - (intOf v9).toNat)
    case atStart => exact ⟨0, rfl, Nat.zero_le _, rfl, rfl, Below.refl _ _⟩
    case round =>
      obtain ⟨i, rfl, hi, rfl, rfl, hb⟩ := hrel
      have HB := Lib.hid hb
      by_cases hlt : i < n
      · have hltI : (i : Int) < (n : Int) := by omega
        have c1 := (HST.out.1.below hb).2 i (by rw [HN.out]; exact hlt)
        have hsc := cntB_succ (P := P) (i := i) (by rw [HN.out]; exact hlt)
        have hcl := cntB_le P i
        obtain ⟨p, hp⟩ : ∃ p, P.getD i [] = p := ⟨_, rfl⟩
        rw [hp] at c1 hsc
        have HSC := Lib.hid hsc
        generalize cntB (P.take i) = k at *
        have hk : (k : Int) ≤ 2000000 := by omega
        clear hsc hp hb
        by_cases q1 : p = [110, 111]
        · subst q1
          go_wp2_with fail
          go_roundw
          case rel =>
            have h : cntB (P.take (i + 1)) = k + 1 := HSC.out
            exact ⟨i + 1, by go_num, by omega, by rw [h]; go_num, by rw [h, show i + 1 - (k + 1) = i - k by omega], HB.out⟩
          case measure => simp [intOf]; omega
        · by_cases q2 : p = [119, 104, 97, 116]
          · subst q2
            go_wp2_with fail
            go_roundw
            case rel =>
              have h : cntB (P.take (i + 1)) = k + 1 := HSC.out
              exact ⟨i + 1, by go_num, by omega, by rw [h]; go_num, by rw [h, show i + 1 - (k + 1) = i - k by omega], HB.out⟩
            case measure => simp [intOf]; omega
          · have e1 : (p == [110, 111]) = false := by simpa using q1
            have e2 : (p == [119, 104, 97, 116]) = false := by simpa using q2
            have hik : ((i - k : Nat) : Int) ≤ 2000000 := by omega
            obtain ⟨d, hd⟩ : ∃ d, i - k = d := ⟨_, rfl⟩
            rw [hd] at hik ⊢
            have HD := Lib.hid hd
            clear hd
            go_wp2_with fail
            go_roundw
            case rel =>
              have h : cntB (P.take (i + 1)) = k := by
                have h := HSC.out
                have h2 : badB p = false := by unfold badB; rw [e1, e2]; rfl
                rw [h2] at h
                simpa using h
              exact ⟨i + 1, by go_num, by omega, by rw [h], by rw [h, show i + 1 - k = d + 1 by have := HD.out; omega]; go_num, HB.out⟩
            case measure => simp [intOf]; omega
      · obtain rfl : n = i := by omega
        have ht : P.take n = P := by rw [← HN.out, List.take_length]
        rw [ht]
        have HF := Lib.hid (HST.out.2.trans (hb.mono HST.out.2.size))
        clear hb ht
        go_wp2_with fail
        go_ret3
        exact ⟨HF.out, .inr ⟨by simp, rfl⟩⟩
  · have hem : (⟨r.toArray⟩ : ByteArray).toList.isEmpty = false := by
      rw [ba_toList]
      cases r with
      | nil => exact absurd rfl hr0
      | cons a t => rfl
    have hem2 : r.isEmpty = false := by
      cases r with
      | nil => exact absurd rfl hr0
      | cons a t => rfl
    have HR := Lib.hid hr0
    clear hr0
    go_enter Tryd.func6, Tryd.ntmps6
    go_wp2_with fail
    refine K.out.mono ?_
    rintro e w1 ⟨g, cap, rfl, hst, hb⟩
    have HST := Lib.hid (And.intro hst hb)
    clear hst hb K
    go_wp2_with fail
    go_ret3
    exact ⟨HST.out.2, .inl ⟨HR.out, rfl⟩⟩

set_option maxHeartbeats 2000000 in
theorem iCount_any (w : World) (s : ByteArray) (m : Int) (hs : s.size ≤ 2000000) (hm : w.cell? ⟨0, 0, none⟩ = some (.int .i64 m)) :
    Calls Tryd.prog 7 #[.string s] w fun e w' => Below w.heap.size w w' ∧ ((restL s.data.toList ≠ [] ∧ e = .returned (.tuple #[.int .i64 0, .int .i64 0, .bool false])) ∨ (restL s.data.toList = [] ∧ e = .returned (.tuple #[.int .i64 (cntB (lnsL s.data.toList) : Nat), .int .i64 ((lnsL s.data.toList).length - cntB (lnsL s.data.toList) : Nat), .bool true]))) := by
  have K := Lib.hid (linesOf_any w s m hs hm)
  have hle := lns_le s.data.toList
  rw [ba_size] at hle
  obtain ⟨P, hP⟩ : ∃ P, P = lnsL s.data.toList := ⟨_, rfl⟩
  obtain ⟨r, hr⟩ : ∃ r, r = restL s.data.toList := ⟨_, rfl⟩
  rw [← hP, ← hr] at K ⊢
  rw [← hP] at hle
  obtain ⟨n, hn⟩ : ∃ n, P.length = n := ⟨_, rfl⟩
  rw [hn] at K hle ⊢
  have hnl : (n : Int) ≤ 2000000 := by omega
  have HN := Lib.hid hn
  clear hP hr hn hle
  go_enter Tryd.func7, Tryd.ntmps7
  go_wp2_with fail
  refine K.out.mono ?_
  rintro e w1 ⟨hb, ⟨hr0, rfl⟩ | ⟨hr0, g, cap, rfl, hst⟩⟩
  · have HF := Lib.hid (And.intro hb hr0)
    clear hb hr0 K
    go_wp2_with fail
    go_ret3
    exact ⟨HF.out.1, .inl ⟨HF.out.2, rfl⟩⟩
  · have HST := Lib.hid (And.intro hst (And.intro hb hr0))
    clear hst hb hr0 K
    go_wp2_with fail
    go_loopw [7, 19] (fun v7 v19 wr => ∃ i : Nat, v19 = .int .i64 i ∧ i ≤ n ∧ v7 = .int .i64 (cntB (P.take i) : Nat) ∧ wr = w1) (fun _ v19 _ => n - (intOf v19).toNat)
    case atStart => exact ⟨0, rfl, Nat.zero_le _, rfl, rfl⟩
    case round =>
      obtain ⟨i, rfl, hi, rfl, hwr⟩ := hrel
      by_cases hlt : i < n
      · have hltI : (i : Int) < (n : Int) := by omega
        have c1 := HST.out.1.2 i (by rw [HN.out]; exact hlt)
        rw [← hwr] at c1
        have HWR := Lib.hid hwr
        have hsc := cntB_succ (P := P) (i := i) (by rw [HN.out]; exact hlt)
        have hcl := cntB_le P i
        obtain ⟨p, hp⟩ : ∃ p, P.getD i [] = p := ⟨_, rfl⟩
        rw [hp] at c1 hsc
        have HSC := Lib.hid hsc
        generalize cntB (P.take i) = k at *
        have hk : (k : Int) ≤ 2000000 := by omega
        clear hsc hp hwr
        by_cases q1 : p = [110, 111]
        · subst q1
          go_wp2_with fail
          go_roundw
          case rel =>
            have h : cntB (P.take (i + 1)) = k + 1 := HSC.out
            exact ⟨i + 1, by go_num, by omega, by rw [h]; go_num, HWR.out⟩
          case measure => simp [intOf]; omega
        · by_cases q2 : p = [119, 104, 97, 116]
          · subst q2
            go_wp2_with fail
            go_roundw
            case rel =>
              have h : cntB (P.take (i + 1)) = k + 1 := HSC.out
              exact ⟨i + 1, by go_num, by omega, by rw [h]; go_num, HWR.out⟩
            case measure => simp [intOf]; omega
          · have e1 : (p == [110, 111]) = false := by simpa using q1
            have e2 : (p == [119, 104, 97, 116]) = false := by simpa using q2
            go_wp2_with fail
            go_roundw
            case rel =>
              have h : cntB (P.take (i + 1)) = k := by
                have h := HSC.out
                have h2 : badB p = false := by unfold badB; rw [e1, e2]; rfl
                rw [h2] at h
                simpa using h
              exact ⟨i + 1, by go_num, by omega, by rw [h], HWR.out⟩
            case measure => simp [intOf]; omega
      · obtain rfl : n = i := by omega
        have ht : P.take n = P := by rw [← HN.out, List.take_length]
        have hcl := cntB_le P n
        rw [ht] at hcl ⊢
        obtain ⟨k, hkk⟩ : ∃ k, cntB P = k := ⟨_, rfl⟩
        rw [hkk] at hcl ⊢
        have HK := Lib.hid hkk
        clear hkk
        have e1 : IntKind.i64.wrap ((n : Int) - (k : Int)) = ((n - k : Nat) : Int) := by rw [show (n : Int) - (k : Int) = ((n - k : Nat) : Int) by omega]; exact IntWalk.i64_in _ (by omega)
        subst hwr
        clear ht
        go_wp2_with fail
        go_ret3
        exact ⟨HST.out.2.1, .inr ⟨HST.out.2.2, by rw [HK.out]; rfl⟩⟩

end Go.Proofs.YtegcbbmbmchagaaDoor
