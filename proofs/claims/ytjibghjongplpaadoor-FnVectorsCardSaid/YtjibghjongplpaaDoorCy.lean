/- impl.ReadNumbers: what is read of a text of words, wherever the tables of decimal digits are. -/
import Derived.Test.YtjibghjongplpaaDoorCr
namespace Go.Proofs.YtjibghjongplpaaDoor
open Go.RowKit
set_option maxRecDepth 100000
set_option linter.unusedVariables false
set_option linter.unusedSimpArgs false

theorem OwnS.form {w : World} {B n : Nat} {v : Value} {P : List (List UInt8)} (h : OwnS w B v P) (hn : P.length = n) : ∃ g sa c, v = .slice sa n c ∧ (0 < n → sa = some ⟨g, 0, none⟩) ∧ B ≤ g := by
  rcases h.2 with ⟨q1, q2⟩ | ⟨g, cap, cur, e, hg, _⟩
  · subst q1
    rw [hn] at q2; subst q2
    exact ⟨B, none, 0, rfl, fun h => absurd h (Nat.lt_irrefl _), Nat.le_refl _⟩
  · rw [hn] at e
    exact ⟨g, _, cap, e, fun _ => rfl, hg⟩

set_option maxHeartbeats 4000000 in
theorem readNumsP_any (w : World) (s : ByteArray) (m : Int) (hs : s.size ≤ 2000000) (hm : w.cell? ⟨1, 0, none⟩ = some (.int .i64 m)) :
    Calls Tryd.prog 9 #[.string s] w fun e w' => ReadF w e w' (numR s.data.toList) := by
  obtain ⟨j0, hj0, hy0, hy1, hy2⟩ := info_parts info_flt
  have HO0 := Lib.hid (OwnF.start w w.heap.size (Nat.le_refl _))
  have hb0 : Below w.heap.size w (w.alloc (.cells #[] 37)) := (Below.refl _ _).alloc (Nat.le_refl _) _
  have HB0 := Lib.hid hb0
  have hmem := fun p => prt_mem_le (t := s.data.toList) p
  rw [ba_size] at hmem
  have KC := Lib.hid (parted_any (w.alloc (.cells #[] 37)) s m hs ((hb0.cell (p := ⟨1, 0, none⟩) (World.block_lt_of_cell? _ _ hm)).trans hm))
  obtain ⟨r, hr⟩ : ∃ r, r = numR s.data.toList := ⟨_, rfl⟩
  rw [← hr]
  rw [numR_prt] at hr
  obtain ⟨P, hP⟩ : ∃ P, P = prtL s.data.toList := ⟨_, rfl⟩
  have hn2 := prt_count s.data.toList
  rw [← hP] at KC hmem hr hn2
  rw [ba_size] at hn2
  obtain ⟨n, hn⟩ : ∃ n, P.length = n := ⟨_, rfl⟩
  have HR := Lib.hid hr
  have HM := Lib.hid (fun p hp => Nat.le_trans (hmem p hp) hs)
  have HN := Lib.hid hn
  rw [hn] at hn2
  clear hb0 hr hP hmem hn hm
  go_enter Tryd.func9, Tryd.ntmps9
  go_wp2_with fail
  refine KC.out.mono ?_
  rintro e w1 ⟨v, rfl, hst, hb⟩
  obtain ⟨g, sa, c, rfl, hsa, hgB⟩ := hst.form HN.out
  have hgg : w.heap.size ≠ g := by simp at hgB; omega
  have HST := Lib.hid (And.intro hst (And.intro hgg (HB0.out.trans (hb.mono HB0.out.size))))
  have HO1 := Lib.hid (HO0.out.below hb)
  have HSA := Lib.hid hsa
  clear hst hb KC HO0 HB0 hgg hsa hgB
  go_wp2_with fail
  go_loopw [4, 6, 7, 8, 13] (fun v4 _ _ _ v13 wr => ∃ (i g4 cap4 : Nat), v13 = .int .i64 i ∧ i ≤ n ∧ i ≤ 256 ∧ v4 = .slice (some ⟨g4, 0, none⟩) i cap4 ∧ g4 ≠ g ∧ (∀ j, j < i → (valH (P.getD j [])).2 = true) ∧ OwnF wr w.heap.size (.slice (some ⟨g4, 0, none⟩) i cap4) ((P.take i).map fun p => (valH p).1) ∧ OwnS wr (w.alloc (.cells #[] 37)).heap.size (.slice sa n c) P ∧ Below w.heap.size w wr) (fun _ _ _ _ v13 _ => n - (intOf v13).toNat)
  case atStart => exact ⟨0, _, _, rfl, Nat.zero_le _, Nat.zero_le _, rfl, HST.out.2.1, fun j hj => absurd hj (Nat.not_lt_zero _), HO1.out, HST.out.1, HST.out.2.2⟩
  case round =>
    clear HO1
    obtain ⟨i, g4, cap4, rfl, hi, hiM, rfl, hng, hok, hown, hst, hb⟩ := hrel
    have HB := Lib.hid hb
    have HS := Lib.hid hst
    have HOW := Lib.hid hown
    have HOK := Lib.hid hok
    have HNG := Lib.hid hng
    by_cases hlt : i < n
    · obtain rfl := HSA.out (by omega)
      have hltI : (i : Int) < (n : Int) := by omega
      have c1 := strAt hst i (by rw [HN.out]; exact hlt)
      have hsz := HM.out _ (getD_mem (P := P) (i := i) (by rw [HN.out]; exact hlt))
      have htk := take_snocP (P := P) (i := i) (by rw [HN.out]; exact hlt)
      have hbn := hb.size
      have hgl := (hst.lt (k := g) rfl).2
      have hPm := getD_mem (P := P) (i := i) (by rw [HN.out]; exact hlt)
      obtain ⟨p, hp⟩ : ∃ p, P.getD i [] = p := ⟨_, rfl⟩
      rw [hp] at c1 hsz htk hPm
      obtain ⟨q, hq⟩ : ∃ q : ByteArray, (⟨p.toArray⟩ : ByteArray) = q := ⟨_, rfl⟩
      rw [hq] at c1
      have KV := Lib.hid (readNum_any wr q p hq hsz)
      have HTK := Lib.hid htk
      have HP := Lib.hid (And.intro hp hPm)
      have hrow : wr.ownsRow w.heap.size 37 1 (.slice (some ⟨g4, 0, none⟩) i cap4) i (fCells ((P.take i).map fun p => (valH p).1)) := by
        have h9 := hown.1
        rwa [List.length_map, List.length_take, HN.out, Nat.min_eq_left hi] at h9
      have HROW := Lib.hid hrow
      cases hv : (valH p).2
      · have hrr : r = ([], false) := by
          rw [HR.out, if_neg]
          rintro ⟨-, h2⟩
          rw [List.all_eq_true] at h2
          have := h2 _ HP.out.2
          rw [hv] at this; cases this
        subst hrr
        rw [hv] at KV
        clear hok hown hb hsz htk hp hPm hq hrow hv hst hng
        go_wp2_with fail
        refine KV.out.mono ?_
        rintro e w2 ⟨⟨x, rfl, -⟩, hw2⟩
        have hb2 : Below wr.heap.size wr w2 := by rw [← hw2]; exact Below.refl _ _
        have HF := Lib.hid (HB.out.trans (hb2.mono HB.out.size))
        clear hb2 hw2
        go_wp2_with fail
        go_ret2
        exact ⟨none, 0, rfl, fun h => (by cases h), HF.out⟩
      · have HV := Lib.hid hv
        rw [hv] at KV
        by_cases h64 : i = 256
        · have hrr : r = ([], false) := by rw [HR.out, if_neg (fun h => by have := h.1; rw [HN.out] at this; omega)]
          subst hrr
          have hiI : ((i : Int) == 256) = true := by rw [h64]; rfl
          clear hok hown hb hsz htk hp hPm hq hrow hv hst hng h64
          go_wp2_with fail
          refine KV.out.mono ?_
          rintro e w2 ⟨⟨x, rfl, -⟩, hw2⟩
          have hb2 : Below wr.heap.size wr w2 := by rw [← hw2]; exact Below.refl _ _
          have HF := Lib.hid (HB.out.trans (hb2.mono HB.out.size))
          clear hb2 hw2
          go_wp2_with fail
          go_ret2
          exact ⟨none, 0, rfl, fun h => (by cases h), HF.out⟩
        · have hiI : ((i : Int) == 256) = false := by rw [beq_eq_false_iff_ne]; omega
          have hi63 : i + 1 ≤ 256 := by omega
          obtain ⟨z, hz⟩ : ∃ z, (valH p).1 = z := ⟨_, rfl⟩
          rw [hz] at KV
          have HZ := Lib.hid hz
          clear hok hown hb hsz htk hp hPm hq hrow hv hst hng hz h64
          go_wp2_with fail
          refine KV.out.mono ?_
          rintro e w2 ⟨⟨x, rfl, hxz⟩, hw2⟩
          have hx := (hxz (by simp)).symm
          subst hx
          have hb2 : Below wr.heap.size wr w2 := by rw [← hw2]; exact Below.refl _ _
          have HB2 := Lib.hid hb2
          clear hb2 hw2
          have hrow2 := World.ownsRow.kept HROW.out (grown_below HB2.out none) (by simp [Value.ownBlock])
          have hb2s := HB2.out.size
          clear c1
          go_wp2_with (at_builtin; refine wpList_append_lies _ (by rfl) _ _ _ (by rfl) w.heap.size 37 j0 _ 1 4 Tryd.underlying24 hj0 hy0 hy1 hy2 rfl (by omega) (.slice (some ⟨g4, 0, none⟩) i cap4) i _ (by rfl) (World.ownsRow.alloc hrow2 _) ⟨w2.heap.size, 0, none⟩ 1 1 [.float .f32 z] (by rfl) (by rfl) (cell_one_new _ _ _) (by simp [Value.oneCell']) (by omega) (by unfold maxLen; omega) (by omega) (by simp; omega) (w2.heap.size + 1) (by simp) ?_; intro g3 cap3 w3 hown3 hgrow hat hltg)
          have hb3 := HB.out.trans (HB2.out.mono HB.out.size)
          have hrel3 : OwnF w3 w.heap.size (.slice (some ⟨g3, 0, none⟩) (i + 1) cap3) ((P.take (i + 1)).map fun p => (valH p).1) := by
            rw [HTK.out, List.map_append, List.map_singleton, HZ.out]
            exact own_snocF (by rw [List.length_map, List.length_take, HN.out, Nat.min_eq_left hi]) HOW.out.2 (by rw [← HZ.out]; exact valH_lt) hown3
          have hbw : Below w.heap.size w w3 := (hb3.alloc hb3.size _).grown hgrow (by have := hb3.size; simp; omega) (fun k' hk => (HOW.out.lt hk).1)
          have hs3 : OwnS w3 (w.alloc (.cells #[] 37)).heap.size (.slice (some ⟨g, 0, none⟩) n c) P := World.ownsRow.kept (World.ownsRow.alloc (HS.out.below HB2.out) _) hgrow (.inr (by simp [Value.ownBlock]; exact fun h => HNG.out h.symm))
          have hng3 : g3 ≠ g := by
            rcases hat with h | h
            · simp [Value.ownBlock] at h
              rw [← h]; exact HNG.out
            · rw [h]; omega
          have HR3 := Lib.hid (And.intro hrel3 (And.intro hbw (And.intro hs3 hng3)))
          have H63 := Lib.hid hi63
          clear hrel3 hb3 hbw hs3 hng3 hown3 hgrow hat hrow2 hi63
          go_wp2_with fail
          go_roundw
          case rel => exact ⟨i + 1, g3, cap3, by go_num, by omega, H63.out, rfl, HR3.out.2.2.2, fun j hj => by
              rcases Nat.lt_or_ge j i with h | h
              · exact HOK.out j h
              · obtain rfl : j = i := by omega
                rw [HP.out.1]; exact HV.out, HR3.out.1, HR3.out.2.2.1, HR3.out.2.1⟩
          case measure => simp [intOf]; omega
    · obtain rfl : i = n := by omega
      have hall : P.all (fun p => (valH p).2) = true := by
        rw [List.all_eq_true]
        intro x hx
        obtain ⟨j, hj, rfl⟩ := List.getElem_of_mem hx
        have := hok j (by rw [← HN.out]; exact hj)
        rwa [List.getD_eq_getElem?_getD, List.getElem?_eq_getElem hj] at this
      have hrr : r = (P.map fun p => (valH p).1, true) := by
        rw [HR.out, if_pos ⟨by rw [HN.out]; exact hiM, hall⟩]
      rw [List.take_of_length_le (by rw [HN.out]; exact Nat.le_refl _)] at hown
      have hF : ReadF w (.returned (.tuple #[.slice (some ⟨g4, 0, none⟩) i cap4, .bool true])) wr r := by
        rw [hrr]
        refine ⟨some ⟨g4, 0, none⟩, cap4, ?_, fun _ => ?_, hb⟩
        · rw [List.length_map, HN.out]
        · show OwnF _ _ (.slice _ (P.map fun p => (valH p).1).length _) _
          rw [List.length_map, HN.out]; exact hown
      have HF := Lib.hid hF
      clear hall hrr hown hF hb hst hok hng HB HS HOW HOK HNG
      go_wp2_with fail
      go_ret2
      exact HF.out

end Go.Proofs.YtjibghjongplpaaDoor
