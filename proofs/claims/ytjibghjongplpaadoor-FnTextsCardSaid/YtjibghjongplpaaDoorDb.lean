/- The program's text of a list of whole numbers: impl.ListText. -/
import Derived.Test.YtjibghjongplpaaDoorDa
import Derived.Test.YtjibghjongplpaaDoorJd
import Derived.Test.YtjibghjongplpaaDoorCi
import Derived.Test.YtjibghjongplpaaDoorCz
namespace Go.Proofs.YtjibghjongplpaaDoor
open Go.RowKit
set_option maxRecDepth 100000
set_option linter.unusedVariables false
set_option linter.unusedSimpArgs false

set_option maxHeartbeats 4000000 in
theorem listText_gen (w : World) (B g0 n c : Nat) (ns : List Int) (h : OwnZ w B (.slice (some ⟨g0, 0, none⟩) n c) ns) (hn : ns.length = n) (hb : ∀ z ∈ ns, -1000000000000000 ≤ z ∧ z ≤ 1000000000000000) (hl : n ≤ 64) (ht : TabT w) :
    Calls Tryd.prog 11 #[.slice (some ⟨g0, 0, none⟩) n c] w fun e w' => e = .returned (.tuple #[.string ⟨(commaL (zTexts ns)).toArray⟩, .bool true]) ∧ Below w.heap.size w w' := by
  obtain ⟨j0, hj0, hy0, hy1, hy2⟩ := info_parts info_strT
  have HS := Lib.hid h
  have HN := Lib.hid hn
  have HZB := Lib.hid (And.intro hb ht)
  have hg0 := (h.lt (k := g0) rfl).2
  have HO0 := Lib.hid (OwnS.start w w.heap.size (Nat.le_refl _))
  have hb0 : Below w.heap.size w (w.alloc (.cells #[] 9)) := (Below.refl _ _).alloc (Nat.le_refl _) _
  have HB0 := Lib.hid hb0
  clear h hn hb0 hb ht
  go_enter Tryd.func11, Tryd.ntmps11
  go_wp2_with fail
  go_loopw [4, 10] (fun v4 v10 wr => ∃ (i : Nat) (g cap : Nat), v10 = .int .i64 i ∧ i ≤ n ∧ v4 = .slice (some ⟨g, 0, none⟩) i cap ∧ OwnS wr w.heap.size (.slice (some ⟨g, 0, none⟩) i cap) (zTexts (ns.take i)) ∧ Below w.heap.size w wr) (fun _ v10 _ => n - (intOf v10).toNat)
  case atStart => exact ⟨0, _, _, rfl, Nat.zero_le _, rfl, HO0.out, HB0.out⟩
  case round =>
    clear HO0 HB0
    obtain ⟨i, g, cap, rfl, hi, rfl, hown, hb⟩ := hrel
    have HOW := Lib.hid hown
    have HB := Lib.hid hb
    have hlen : (zTexts (ns.take i)).length = i := by unfold zTexts; rw [List.length_map, List.length_take, HN.out]; omega
    by_cases hlt : i < n
    · have k1 := (HS.out.below hb).cellAt i (by rw [HN.out]; exact hlt)
      have hg1 := Nat.lt_of_lt_of_le hg0 hb.size
      obtain ⟨x, hx⟩ : ∃ x, ns.getD i 0 = x := ⟨_, rfl⟩
      have hxb : -1000000000000000 ≤ x ∧ x ≤ 1000000000000000 := by
        rw [← hx, List.getD_eq_getElem?_getD, List.getElem?_eq_getElem (by rw [HN.out]; exact hlt)]
        exact HZB.out.1 _ (List.getElem_mem _)
      have htk : ns.take (i + 1) = ns.take i ++ [ns.getD i 0] := by
        have h5 : i < ns.length := by rw [HN.out]; exact hlt
        rw [List.take_succ_eq_append_getElem h5, List.getD_eq_getElem?_getD, List.getElem?_eq_getElem h5]; rfl
      rw [hx] at k1 htk
      have hltI : (i : Int) < (n : Int) := by omega
      have hhx : zTexts (ns.take (i + 1)) = zTexts (ns.take i) ++ [Lib.itoa x] := by rw [htk]; unfold zTexts; rw [List.map_append]; rfl
      have HHX := Lib.hid hhx
      have KX := Lib.hid (dec_int wr x (by omega) (by omega) (HZB.out.2.below hb))
      have KI := Lib.hid (fun W => in_any x (-1000000000000000) 1000000000000000 W)
      have hin : (decide ((-1000000000000000 : Int) ≤ x) && decide (x ≤ 1000000000000000)) = true := by
        rw [decide_eq_true hxb.1, decide_eq_true hxb.2]; rfl
      rw [hin] at KI
      have hi64 : ((i : Int) == 64) = false := by rw [beq_eq_false_iff_ne]; omega
      have hrow : wr.ownsRow w.heap.size 9 1 (.slice (some ⟨g, 0, none⟩) i cap) i (sCells (zTexts (ns.take i))) := by
        have h9 := HOW.out
        unfold OwnS at h9
        rwa [hlen] at h9
      have HL := Lib.hid hlen
      have hbn := hb.size
      clear hown hb hx htk hhx hlen hin hxb
      go_wp2_with (go_at_call 37; refine (KI.out _).mono ?_; rintro e w' ⟨rfl, rfl⟩)
      clear k1
      refine KX.out.mono ?_
      rintro e w3 ⟨rfl, hb3⟩
      have hrow3 := World.ownsRow.kept hrow (grown_below hb3 none) (by simp [Value.ownBlock])
      have HB3 := Lib.hid (HB.out.trans (hb3.mono HB.out.size))
      have hb3s := hb3.size
      clear hb3
      go_wp2_with (at_builtin; refine wpList_append_lies _ (by rfl) _ _ _ (by rfl) w.heap.size 9 j0 _ 1 16 Tryd.underlying57 hj0 hy0 hy1 hy2 rfl (by omega) _ i _ (by rfl) (World.ownsRow.alloc hrow3 _) ⟨w3.heap.size, 0, none⟩ 1 1 [.string ⟨(Lib.itoa x).toArray⟩] (by rfl) (by rfl) (cell_one_new _ _ _) (by simp [Value.oneCell']) (by omega) (by unfold maxLen; omega) (by omega) (by simp; omega) (w3.heap.size + 1) (by simp) ?_; intro g3 cap3 w2 hown2 hgrow hat hlt2)
      refine ⟨⟨i + 1, g3, cap3, by go_num, by omega, rfl, ?_, ?_⟩, by simp [intOf]; omega⟩
      · rw [HHX.out]; exact own_snocS HL.out hown2
      · exact (HB3.out.alloc HB3.out.size _).grown hgrow (by have := HB3.out.size; simp; omega) (fun k hk => (HOW.out.lt hk).1)
    · obtain rfl : n = i := by omega
      have hall : zTexts (ns.take n) = zTexts ns := by rw [← HN.out, List.take_length]
      rw [hall] at hown
      have KJ := Lib.hid (joined_gen wr w.heap.size _ (zTexts ns) hown (by unfold zTexts; rw [List.length_map, HN.out]; omega) (by
        have := zTexts_len ns HZB.out.1
        rw [HN.out] at this; omega))
      clear hown hall hb HOW
      go_wp2_with fail
      refine KJ.out.mono ?_
      rintro e w2 ⟨rfl, hb2⟩
      have HF := Lib.hid (HB.out.trans (hb2.mono HB.out.size))
      clear hb2
      go_wp2_with fail
      go_ret2
      exact ⟨rfl, HF.out⟩

end Go.Proofs.YtjibghjongplpaaDoor
