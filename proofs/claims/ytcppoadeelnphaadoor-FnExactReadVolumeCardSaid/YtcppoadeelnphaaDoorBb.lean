/- Texts cut at a byte by the reference: l01Cut. -/
import Derived.Test.YtcppoadeelnphaaDoorBa
import Derived.Test.YtcppoadeelnphaaDoorBs
import Derived.Test.YtcppoadeelnphaaDoorSs
import Derived.Deep.AppendLies
namespace Go.Proofs.YtcppoadeelnphaaDoor
open Go.RowKit
set_option maxRecDepth 100000
set_option linter.unusedVariables false
set_option linter.unusedSimpArgs false

/-- What is cut so far: parts, and where the next one begins. -/
def CutI (c : UInt8) (l : List UInt8) (i F : Nat) (P : List (List UInt8)) : Prop :=
  (i ≤ l.length ∧ F ≤ i ∧ P ++ cutL c (l.drop F) = cutL c l ∧ ∀ k, F ≤ k → k < i → l[k]? ≠ some c) ∨ (i = l.length + 1 ∧ P = cutL c l)
theorem CutI.start (c : UInt8) (l : List UInt8) : CutI c l 0 0 [] := .inl ⟨Nat.zero_le _, Nat.le_refl _, by simp, fun k h1 h2 => by omega⟩
theorem CutI.len {c : UInt8} {l : List UInt8} {i F : Nat} {P : List (List UInt8)} (h : CutI c l i F P) : P.length ≤ l.length + 1 := by
  have := cutL_count c l
  rcases h with ⟨-, -, h, -⟩ | ⟨-, h⟩
  · rw [← h, List.length_append] at this; omega
  · rw [h]; exact this
theorem drop_split {l : List UInt8} {F i : Nat} {c : UInt8} (h1 : F ≤ i) (h2 : l[i]? = some c) : l.drop F = (l.drop F).take (i - F) ++ c :: l.drop (i + 1) := by
  have h3 : i < l.length := (List.getElem?_eq_some_iff.1 h2).1
  have h4 : l[i] = c := (List.getElem?_eq_some_iff.1 h2).2
  have h5 : (l.drop F).drop (i - F) = c :: l.drop (i + 1) := by
    rw [List.drop_drop, show F + (i - F) = i by omega, List.drop_eq_getElem_cons h3, h4]
  conv => lhs; rw [← List.take_append_drop (i - F) (l.drop F), h5]
theorem none_in {l : List UInt8} {F i : Nat} {c : UInt8} (h : ∀ k, F ≤ k → k < i → l[k]? ≠ some c) : ∀ b ∈ (l.drop F).take (i - F), b ≠ c := by
  intro b hb e
  subst e
  obtain ⟨k, hk, he⟩ := List.getElem_of_mem hb
  rw [List.length_take, List.length_drop] at hk
  rw [List.getElem_take, List.getElem_drop] at he
  exact h (F + k) (by omega) (by omega) (by rw [← he]; exact List.getElem?_eq_getElem _)
theorem CutI.skip {c : UInt8} {l : List UInt8} {i F : Nat} {P : List (List UInt8)} (h : CutI c l i F P) (hi : i < l.length) (hc : l[i]? ≠ some c) : CutI c l (i + 1) F P := by
  rcases h with ⟨h1, h2, h3, h4⟩ | ⟨h1, h2⟩
  · refine .inl ⟨by omega, by omega, h3, fun k h5 h6 => ?_⟩
    by_cases h7 : k = i
    · subst h7; exact hc
    · exact h4 k h5 (by omega)
  · omega
theorem CutI.hit {c : UInt8} {l : List UInt8} {i F : Nat} {P : List (List UInt8)} (h : CutI c l i F P) (hi : i < l.length) (hc : l[i]? = some c) : CutI c l (i + 1) (i + 1) (P ++ [(l.drop F).take (i - F)]) := by
  rcases h with ⟨h1, h2, h3, h4⟩ | ⟨h1, h2⟩
  · refine .inl ⟨by omega, Nat.le_refl _, ?_, fun k h5 h6 => by omega⟩
    rw [List.append_assoc, ← h3]
    congr 1
    conv => rhs; rw [drop_split h2 hc]
    rw [cutL_hit (none_in h4)]; rfl
  · omega
theorem CutI.last {c : UInt8} {l : List UInt8} {F : Nat} {P : List (List UInt8)} (h : CutI c l l.length F P) : P ++ [(l.drop F).take (l.length - F)] = cutL c l := by
  rcases h with ⟨h1, h2, h3, h4⟩ | ⟨h1, h2⟩
  · rw [← h3]
    congr 1
    have h5 : (l.drop F).take (l.length - F) = l.drop F := by rw [List.take_of_length_le (by rw [List.length_drop]; omega)]
    rw [h5]
    have h6 := none_in h4
    rw [h5] at h6
    rw [cutL_none h6]
  · omega
theorem CutI.from_le {c : UInt8} {l : List UInt8} {i F : Nat} {P : List (List UInt8)} (h : CutI c l i F P) (hi : i ≤ l.length) : F ≤ i := by
  rcases h with ⟨h1, h2, h3, h4⟩ | ⟨h1, h2⟩
  · exact h2
  · omega
theorem byteN_eq {s : ByteArray} {i : Nat} {c : UInt8} (h : i < s.size) : ((byteN s i : Int) == (c.toNat : Int)) = decide (s.data.toList[i]? = some c) := by
  have hl : i < s.data.toList.length := by rw [ba_size]; exact h
  unfold byteN
  rw [List.getD_eq_getElem?_getD, List.getElem?_eq_getElem hl, Option.getD_some, Bool.eq_iff_iff, beq_iff_eq, decide_eq_true_eq, Option.some.injEq, ← UInt8.toNat_inj]
  omega
theorem ext_take (s : ByteArray) (a b : Nat) (h : a ≤ b) : s.extract a b = ⟨((s.data.toList.drop a).take (b - a)).toArray⟩ := by
  apply ba_of
  rw [ext_list, List.drop_take]

set_option maxHeartbeats 2000000 in
theorem s01Cut_any (w : World) (s : ByteArray) (c : UInt8) (hs : s.size ≤ 2000000) :
    Calls Tryd.prog 37 #[.string s, .int .u8 (c.toNat : Int)] w fun e w' => ∃ g cap, e = .returned (.slice (some ⟨g, 0, none⟩) (cutL c s.data.toList).length cap) ∧ OwnS w' w.heap.size (.slice (some ⟨g, 0, none⟩) (cutL c s.data.toList).length cap) (cutL c s.data.toList) ∧ Below w.heap.size w w' := by
  obtain ⟨j0, hj0, hy0, hy1, hy2⟩ := info_parts info_strT
  have HO0 := Lib.hid (OwnS.start w w.heap.size (Nat.le_refl _))
  have hb0 : Below w.heap.size w (w.alloc (.cells #[] 9)) := (Below.refl _ _).alloc (Nat.le_refl _) _
  have HB0 := Lib.hid hb0
  obtain ⟨l, hl⟩ : ∃ l, l = s.data.toList := ⟨_, rfl⟩
  have hn : l.length = s.size := by rw [hl]; exact ba_size s
  obtain ⟨n, hnn⟩ : ∃ n, s.size = n := ⟨_, rfl⟩
  rw [← hl]
  have HL := Lib.hid hl
  have HN := Lib.hid hn
  have HS := Lib.hid hnn
  rw [hnn] at hs
  clear hb0 hl hn
  go_enter Tryd.func37, Tryd.ntmps37
  go_wp2_with fail
  go_loopw [5, 6, 7] (fun v5 v6 v7 wr => ∃ (i F k g cap : Nat) (P : List (List UInt8)), v5 = .slice (some ⟨g, 0, none⟩) k cap ∧ v6 = .int .i64 F ∧ v7 = .int .i64 i ∧ P.length = k ∧ i ≤ n + 1 ∧ F ≤ n + 1 ∧ CutI c l i F P ∧ OwnS wr w.heap.size (.slice (some ⟨g, 0, none⟩) k cap) P ∧ Below w.heap.size w wr) (fun _ _ v7 _ => n + 1 - (intOf v7).toNat)
  case atStart => exact ⟨0, 0, 0, _, _, [], rfl, rfl, rfl, rfl, by omega, by omega, CutI.start c l, HO0.out, HB0.out⟩
  case round =>
    clear HO0 HB0
    obtain ⟨i, F, k, g, cap, P, rfl, rfl, rfl, hPk, hi, hF, hI, hown, hb⟩ := hrel
    have HI := Lib.hid hI
    have HOW := Lib.hid hown
    have HB := Lib.hid hb
    have HPK := Lib.hid hPk
    have hkl : k ≤ n + 1 := by have := hI.len; rw [HN.out, HS.out] at this; omega
    have hrow : wr.ownsRow w.heap.size 9 1 (.slice (some ⟨g, 0, none⟩) k cap) k (sCells P) := by
      have h9 := hown
      unfold OwnS at h9
      rwa [hPk] at h9
    have hbn := hb.size
    clear hown hb hI hPk
    by_cases hlt : i ≤ n
    · have hltI : (i : Int) ≤ (n : Int) := by omega
      have hFi : F ≤ i := HI.out.from_le (by rw [HN.out, HS.out]; exact hlt)
      have hFiI : (F : Int) ≤ (i : Int) := by omega
      have hex : s.extract F i = ⟨((l.drop F).take (i - F)).toArray⟩ := by rw [HL.out]; exact ext_take s F i hFi
      have HEX := Lib.hid hex
      obtain ⟨x, hx⟩ : ∃ x, s.extract F i = x := ⟨_, rfl⟩
      have HX := Lib.hid hx
      clear hex
      by_cases hln : i = n
      · subst hln
        go_wp2_with (at_builtin; refine wpList_append_lies _ (by rfl) _ _ _ (by rfl) w.heap.size 9 j0 _ 1 16 Tryd.underlying65 hj0 hy0 hy1 hy2 rfl (by omega) (.slice (some ⟨g, 0, none⟩) k cap) k _ (by rfl) (World.ownsRow.alloc hrow _) ⟨wr.heap.size, 0, none⟩ 1 1 [.string x] (by rfl) (by rfl) (cell_one_new _ _ _) (by simp [Value.oneCell']) (by omega) (by unfold maxLen; omega) (by omega) (by simp; omega) (wr.heap.size + 1) (by simp) ?_; intro g3 cap3 w2 hown2 hgrow hat hltg)
        have hrel2 : OwnS w2 w.heap.size (.slice (some ⟨g3, 0, none⟩) (k + 1) cap3) (P ++ [(l.drop F).take (i - F)]) := by
          rw [← HX.out, HEX.out] at hown2
          exact own_snocS HPK.out hown2
        have hbel2 : Below w.heap.size w w2 := (HB.out.alloc HB.out.size _).grown hgrow (by have := HB.out.size; simp; omega) (fun k' hk => (HOW.out.lt hk).1)
        have HR := Lib.hid (And.intro hrel2 hbel2)
        clear hrel2 hbel2 hown2 hgrow hat
        go_wp2_with fail
        go_roundw
        case rel =>
          have h := HI.out
          rw [show i = l.length by have h1 := HN.out; have h2 := HS.out; omega] at h
          exact ⟨i + 1, i + 1, k + 1, g3, cap3, _, rfl, by go_num, by go_num, by rw [List.length_append, HPK.out]; rfl, Nat.le_refl _, Nat.le_refl _, .inr ⟨by rw [HN.out, HS.out], by have := h.last; rwa [show l.length = i by rw [HN.out, HS.out]] at this⟩, HR.out.1, HR.out.2⟩
        case measure => first | (simp [intOf]; done) | (simp [intOf]; omega)
      · have hlt2 : i < n := by omega
        have hltN : (i : Int) < (n : Int) := by omega
        have e1 : ((i : Int) == (n : Int)) = false := by rw [beq_eq_false_iff_ne]; omega
        have e1' : ¬ (i : Int) = (n : Int) := by omega
        have hx0 : ∀ W', (Instr.index 9 (.string s) (.int .i64 (i : Int))).run Tryd.prog W' = .ok (.int .u8 ((byteN s i : Nat) : Int)) W' := fun W' => by
          have := idx_at W' s (i : Int) (by omega) (by rw [HS.out]; omega)
          rwa [Int.toNat_natCast] at this
        have hbq := byteN_eq (s := s) (c := c) (show i < s.size by rw [HS.out]; exact hlt2)
        rw [← HL.out] at hbq
        obtain ⟨b, hb⟩ : ∃ b, byteN s i = b := ⟨_, rfl⟩
        rw [hb] at hx0 hbq
        have HBQ := Lib.hid hbq
        obtain ⟨cn, hcn⟩ : ∃ cn, c.toNat = cn := ⟨_, rfl⟩
        rw [hcn] at hbq ⊢
        cases hd : decide (l[i]? = some c)
        · rw [hd] at hbq
          have hne : l[i]? ≠ some c := of_decide_eq_false hd
          have HNE := Lib.hid hne
          clear hd hne hb hcn
          go_wp2_with fail
          go_roundw
          case rel => exact ⟨i + 1, F, k, g, cap, P, rfl, rfl, by go_num, HPK.out, by omega, hF, HI.out.skip (by rw [HN.out, HS.out]; exact hlt2) HNE.out, HOW.out, HB.out⟩
          case measure => simp [intOf]; omega
        · rw [hd] at hbq
          have heq : l[i]? = some c := of_decide_eq_true hd
          have HEQ := Lib.hid heq
          clear hd heq hb hcn
          go_wp2_with (at_builtin; refine wpList_append_lies _ (by rfl) _ _ _ (by rfl) w.heap.size 9 j0 _ 1 16 Tryd.underlying65 hj0 hy0 hy1 hy2 rfl (by omega) (.slice (some ⟨g, 0, none⟩) k cap) k _ (by rfl) (World.ownsRow.alloc hrow _) ⟨wr.heap.size, 0, none⟩ 1 1 [.string x] (by rfl) (by rfl) (cell_one_new _ _ _) (by simp [Value.oneCell']) (by omega) (by unfold maxLen; omega) (by omega) (by simp; omega) (wr.heap.size + 1) (by simp) ?_; intro g3 cap3 w2 hown2 hgrow hat hltg)
          have hrel2 : OwnS w2 w.heap.size (.slice (some ⟨g3, 0, none⟩) (k + 1) cap3) (P ++ [(l.drop F).take (i - F)]) := by
            rw [← HX.out, HEX.out] at hown2
            exact own_snocS HPK.out hown2
          have hbel2 : Below w.heap.size w w2 := (HB.out.alloc HB.out.size _).grown hgrow (by have := HB.out.size; simp; omega) (fun k' hk => (HOW.out.lt hk).1)
          have HR := Lib.hid (And.intro hrel2 hbel2)
          clear hrel2 hbel2 hown2 hgrow hat
          go_wp2_with fail
          go_roundw
          case rel => exact ⟨i + 1, i + 1, k + 1, g3, cap3, _, rfl, by go_num, by go_num, by rw [List.length_append, HPK.out]; rfl, by omega, by omega, HI.out.hit (by rw [HN.out, HS.out]; exact hlt2) HEQ.out, HR.out.1, HR.out.2⟩
          case measure => simp [intOf]; omega
    · obtain rfl : i = n + 1 := by omega
      have hltI : ¬ ((n + 1 : Nat) : Int) ≤ (n : Int) := by omega
      have hPc : P = cutL c l := by
        rcases HI.out with ⟨h1, -⟩ | ⟨-, h2⟩
        · rw [HN.out, HS.out] at h1; omega
        · exact h2
      have HPC := Lib.hid hPc
      clear hPc
      go_wp2_with fail
      go_ret
      have h1 := HOW.out
      have h2 := HPK.out
      rw [HPC.out] at h1 h2
      rw [h2]
      exact ⟨g, cap, rfl, h1, HB.out⟩

end Go.Proofs.YtcppoadeelnphaaDoor
