/- The program's text of sizes: impl.ListText. -/
import Derived.Test.YtogojmimflgmmaaDoorAo
namespace Go.Proofs.YtogojmimflgmmaaDoor
open Go.RowKit
set_option maxRecDepth 100000
set_option linter.unusedVariables false
set_option linter.unusedSimpArgs false

theorem joined_gen (w : World) (B : Nat) (v : Value) (ps : List (List UInt8)) (h : OwnS w B v ps) (hn : ps.length ≤ 2048) (h8 : (commaL ps).length ≤ 20000) :
    Calls Tryd.prog 43 #[v] w fun e w' => e = .returned (.string ⟨(commaL ps).toArray⟩) ∧ Below w.heap.size w w' := by
  by_cases h0 : ps = []
  · subst h0
    obtain ⟨sa, c, rfl⟩ : ∃ a c, v = .slice a 0 c := by
      rcases h.2 with ⟨q1, q2⟩ | ⟨g, cap, cur, e, r⟩
      · exact ⟨none, 0, q1⟩
      · exact ⟨_, _, e⟩
    go_enter Tryd.func43, Tryd.ntmps43
    go_wp2_with fail
    go_ret
    exact ⟨rfl, Below.refl _ _⟩
  · rcases h.2 with ⟨q1, q2⟩ | ⟨g, cap, cur, e, hg, hh, h3, h4, r⟩
    · exact absurd (List.length_eq_zero_iff.1 q2) h0
    · subst e
      have hpos : 0 < ps.length := by
        rcases Nat.eq_zero_or_pos ps.length with hz | hz
        · exact absurd (List.length_eq_zero_iff.1 hz) h0
        · exact hz
      have hlt := (h.lt (k := g) rfl).2
      have hcells : ∀ (j : Nat) (x : ByteArray), (ps.map fun p => (⟨p.toArray⟩ : ByteArray))[j]? = some x → w.cell? ⟨g, 0 + j, none⟩ = some (.string x) := fun j x hx => by
        have := World.ownsRow.cells h (g := g) rfl j (.string x) (by
          unfold sCells
          rw [List.getElem?_map] at hx ⊢
          cases hq : ps[j]? with
          | none => rw [hq] at hx; simp at hx
          | some p => rw [hq] at hx; simp at hx; rw [← hx]; rfl)
        have z : (⟨g, 0, none⟩ : Addr).add j = ⟨g, 0 + j, none⟩ := by simp [Addr.add]; try omega
        rw [z] at this; exact this
      have hmm : (ps.map fun p => (⟨p.toArray⟩ : ByteArray)).map (fun s => s.data.toList) = ps := by
        rw [List.map_map]
        conv => rhs; rw [← List.map_id ps]
        rfl
      have hjl : (Lib.join ps [44]).length ≤ 20000 := by
        rw [join_comma ps h0]; exact h8
      have KJ := Lib.hid (Tryd.strings_Join g 0 cap (ps.map fun p => (⟨p.toArray⟩ : ByteArray)) ⟨#[44]⟩ w hcells hlt (by rw [List.length_map]; omega) (by rw [List.length_map]; exact h3) (by rw [hmm]; exact Nat.le_trans hjl (by omega)))
      rw [hmm, List.length_map, show (⟨#[44]⟩ : ByteArray).data.toList = [44] from rfl, join_comma ps h0] at KJ
      have hd0 : ((ps.length : Int) == 0) = false := by simp; omega
      have hd1 : ¬ (ps.length : Int) = 0 := by omega
      generalize ps.length = n at *
      clear h hh r hcells hmm hjl h8 h0
      go_enter Tryd.func43, Tryd.ntmps43
      go_wp2_with fail
      refine KJ.out.mono ?_
      rintro e w' ⟨rfl, hb⟩
      go_wp2_with fail
      go_ret
      exact ⟨rfl, hb⟩

theorem decs_len (ns : List Nat) : (decs ns).length = ns.length := by simp [decs]

set_option maxHeartbeats 4000000 in
theorem listText_any (w : World) (g0 n c : Nat) (ns : List Nat) (h : LitN w g0 ns) (hn : ns.length = n) :
    Calls Tryd.prog 35 #[.slice (some ⟨g0, 0, none⟩) n c] w fun e w' => e = .returned (.tuple #[.string ⟨(lstT ns).toArray⟩, .bool true]) ∧ Below w.heap.size w w' := by
  obtain ⟨j0, hj0, hy0, hy1, hy2⟩ := info_parts info_strT
  have HS := Lib.hid h
  have HN := Lib.hid hn
  have hn1 : 1 ≤ n := by have := h.2.2.2.1; omega
  have hn3 : n ≤ 3 := by have := h.2.2.2.2; omega
  have HO0 := Lib.hid (OwnS.start w w.heap.size (Nat.le_refl _))
  have hb0 : Below w.heap.size w (w.alloc (.cells #[] 9)) := (Below.refl _ _).alloc (Nat.le_refl _) _
  have HB0 := Lib.hid hb0
  clear h hn hb0
  go_enter Tryd.func35, Tryd.ntmps35
  go_wp2_with fail
  go_loopw [4, 10] (fun v4 v10 wr => ∃ (i : Nat) (g cap : Nat), v10 = .int .i64 i ∧ i ≤ n ∧ v4 = .slice (some ⟨g, 0, none⟩) i cap ∧ OwnS wr w.heap.size (.slice (some ⟨g, 0, none⟩) i cap) (decs (ns.take i)) ∧ Below w.heap.size w wr) (fun _ v10 _ => n - (intOf v10).toNat)
  case atStart => exact ⟨0, _, _, rfl, Nat.zero_le _, rfl, HO0.out, HB0.out⟩
  case round =>
    clear HO0 HB0
    obtain ⟨i, g, cap, rfl, hi, rfl, hown, hb⟩ := hrel
    have HOW := Lib.hid hown
    have HB := Lib.hid hb
    have hlen : (decs (ns.take i)).length = i := by rw [decs_len, List.length_take, HN.out]; omega
    by_cases hlt : i < n
    · have k1 := (HS.out.below hb).2.1 i (by rw [HN.out]; exact hlt)
      obtain ⟨x, hx⟩ : ∃ x, ns.getD i 0 = x := ⟨_, rfl⟩
      have h100 : x < 100 := by rw [← hx]; exact HS.out.small (by rw [HN.out]; exact hlt)
      have htk := take_last (show i < ns.length by rw [HN.out]; exact hlt)
      rw [hx] at k1 htk
      have hltI : (i : Int) < (n : Int) := by omega
      have hhx : decs (ns.take (i + 1)) = decs (ns.take i) ++ [Lib.decDigits x] := by rw [htk]; unfold decs; rw [List.map_append]; rfl
      have HHX := Lib.hid hhx
      have KX := Lib.hid (fun W => dec_any W x h100)
      have KI := Lib.hid (fun W => in_any (x : Int) (-1000000000000000) 1000000000000000 W)
      have hin : (decide ((-1000000000000000 : Int) ≤ (x : Int)) && decide ((x : Int) ≤ 1000000000000000)) = true := by
        rw [decide_eq_true (by omega), decide_eq_true (by omega)]; rfl
      rw [hin] at KI
      have hi64 : ((i : Int) == 64) = false := by simp; omega
      have hi64' : ¬ (i : Int) = 64 := by omega
      have hrow : wr.ownsRow w.heap.size 9 1 (.slice (some ⟨g, 0, none⟩) i cap) i (sCells (decs (ns.take i))) := by
        have h9 := HOW.out
        unfold OwnS at h9
        rwa [hlen] at h9
      have HL := Lib.hid hlen
      have hbn := hb.size
      clear hown hb hx htk hhx hlen hin
      go_wp2_with (go_at_call 41; refine (KI.out _).mono ?_; rintro e w' ⟨rfl, rfl⟩)
      clear k1
      refine (KX.out _).mono ?_
      rintro e w3 ⟨rfl, rfl⟩
      go_wp2_with (at_builtin; refine wpList_append_lies _ (by rfl) _ _ _ (by rfl) w.heap.size 9 j0 _ 1 16 Tryd.underlying73 hj0 hy0 hy1 hy2 rfl (by omega) _ i _ (by rfl) (World.ownsRow.alloc hrow _) ⟨wr.heap.size, 0, none⟩ 1 1 [.string ⟨(Lib.decDigits x).toArray⟩] (by rfl) (by rfl) (cell_one_new _ _ _) (by simp [Value.oneCell']) (by omega) (by unfold maxLen; omega) (by omega) (by simp; omega) (wr.heap.size + 1) (by simp) ?_; intro g3 cap3 w2 hown2 hgrow hat hlt2)
      refine ⟨⟨i + 1, g3, cap3, by go_num, by omega, rfl, ?_, ?_⟩, by simp [intOf]; omega⟩
      · rw [HHX.out]; exact own_snocS HL.out hown2
      · exact (HB.out.alloc HB.out.size _).grown hgrow (by have := HB.out.size; simp; omega) (fun k hk => (HOW.out.lt hk).1)
    · obtain rfl : n = i := by omega
      have hall : decs (ns.take n) = decs ns := by rw [← HN.out, List.take_length]
      rw [hall] at hown
      have KJ := Lib.hid (joined_gen wr w.heap.size _ (decs ns) hown (by rw [decs_len, HN.out]; omega) (by
        have := lstT_le (ns := ns) HS.out.2.2.1
        unfold lstT at this
        rw [HN.out] at this; omega))
      have e1 : commaL (decs ns) = lstT ns := rfl
      rw [e1] at KJ
      clear hown hall e1 hb HOW
      go_wp2_with fail
      refine KJ.out.mono ?_
      rintro e w2 ⟨rfl, hb2⟩
      have HF := Lib.hid (HB.out.trans (hb2.mono HB.out.size))
      clear hb2
      go_wp2_with fail
      go_ret2
      exact ⟨rfl, HF.out⟩

end Go.Proofs.YtogojmimflgmmaaDoor
