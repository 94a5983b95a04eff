/- The reference's reading of a list of whole numbers: spec.l01Numbers. -/
import Derived.Test.YtcppoadeelnphaaDoorCk
import Derived.Test.YtcppoadeelnphaaDoorCf
import Derived.Test.YtcppoadeelnphaaDoorBb
namespace Go.Proofs.YtcppoadeelnphaaDoor
open Go.RowKit
set_option maxRecDepth 100000
set_option linter.unusedVariables false
set_option linter.unusedSimpArgs false

theorem info_int64 : (Tryd.prog.info? 2).map (fun i => (i.zero, i.size, i.bytes)) = some (some (.int .i64 0), 1, 8) := by kernel_rfl
def zCells (zs : List Int) : List Value := zs.map (Value.int .i64)
/-- Whole numbers in a block of one's own. -/
def OwnZ (w : World) (B : Nat) (v : Value) (zs : List Int) : Prop := w.ownsRow B 2 1 v zs.length (zCells zs)
theorem OwnZ.below {w w' : World} {B : Nat} {v : Value} {zs : List Int} (h : OwnZ w B v zs) (hb : Below w.heap.size w w') : OwnZ w' B v zs := World.ownsRow.kept h (grown_below hb none) (by cases v.ownBlock <;> simp)
theorem OwnZ.lt {w : World} {B : Nat} {v : Value} {zs : List Int} (h : OwnZ w B v zs) {k : Nat} (hk : v.ownBlock = some k) : B ≤ k ∧ k < w.heap.size := World.ownsRow.lt h k hk
theorem OwnZ.start (w : World) (B : Nat) (hB : B ≤ w.heap.size) : OwnZ (w.alloc (.cells #[] 2)) B (.slice (some ⟨w.heap.size, 0, none⟩) 0 0) [] :=
  ⟨rfl, .inr ⟨w.heap.size, 0, #[], rfl, hB, heap_alloc_new w _, Nat.le_refl _, by unfold maxLen; omega, rfl, rfl⟩⟩
theorem own_snocZ {w : World} {B n gg cap : Nat} {zs : List Int} {z : Int} (hl : zs.length = n) (h : w.ownsRow B 2 1 (.slice (some ⟨gg, 0, none⟩) (n + 1) cap) (n + 1) (zCells zs ++ [.int .i64 z])) :
    OwnZ w B (.slice (some ⟨gg, 0, none⟩) (n + 1) cap) (zs ++ [z]) := by
  subst hl
  unfold OwnZ
  rw [List.length_append, List.length_singleton]
  have e : zCells (zs ++ [z]) = zCells zs ++ [.int .i64 z] := by unfold zCells; rw [List.map_append]; rfl
  rw [e]; exact h
theorem add0 (g i : Nat) : (⟨g, 0, none⟩ : Addr).add i = ⟨g, i, none⟩ := by
  by_cases h : i = 0
  · subst h; simp [Addr.add]
  · simp [Addr.add, h]
theorem OwnZ.cellAt {w : World} {B g n cap : Nat} {zs : List Int} (h : OwnZ w B (.slice (some ⟨g, 0, none⟩) n cap) zs) (i : Nat) (hi : i < zs.length) : w.cell? ⟨g, i, none⟩ = some (.int .i64 (zs.getD i 0)) := by
  have := World.ownsRow.cells (g := g) h rfl i (Value.int .i64 (zs.getD i 0)) (by unfold zCells; rw [List.getElem?_map, List.getElem?_eq_getElem hi, List.getD_eq_getElem?_getD, List.getElem?_eq_getElem hi]; rfl)
  have z : (⟨g, 0, none⟩ : Addr).add i = ⟨g, i, none⟩ := add0 g i
  rw [z] at this; exact this
/-- A string of a slice of one's own. -/
theorem strAt {w : World} {B g n cap : Nat} {P : List (List UInt8)} (h : OwnS w B (.slice (some ⟨g, 0, none⟩) n cap) P) (i : Nat) (hi : i < P.length) : w.cell? ⟨g, i, none⟩ = some (.string ⟨(P.getD i []).toArray⟩) := by
  have := World.ownsRow.cells (g := g) h rfl i (.string ⟨(P.getD i []).toArray⟩) (by unfold sCells; rw [List.getElem?_map, List.getElem?_eq_getElem hi, List.getD_eq_getElem?_getD, List.getElem?_eq_getElem hi]; rfl)
  have z : (⟨g, 0, none⟩ : Addr).add i = ⟨g, i, none⟩ := add0 g i
  rw [z] at this; exact this
theorem cutL_mem_le {c : UInt8} : ∀ (l : List UInt8) (p : List UInt8), p ∈ cutL c l → p.length ≤ l.length
  | [], p, h => by
    rw [cutL] at h
    simp at h
    simp [h]
  | d :: l, p, h => by
    rw [cutL] at h
    split at h
    · rcases List.mem_cons.1 h with rfl | h
      · simp
      · have := cutL_mem_le l p h; simp; omega
    · obtain ⟨q, qs, hq⟩ := List.exists_cons_of_ne_nil (cutL_ne c l)
      rw [hq] at h
      have h2 := cutL_mem_le (c := c) l
      rw [hq] at h2
      rcases List.mem_cons.1 h with rfl | h
      · have := h2 q (List.mem_cons_self ..); simp; omega
      · have := h2 p (List.mem_cons_of_mem _ h); simp; omega
/-- What a reading of a list gives: the numbers in memory of one's own, or nothing. -/
def ReadZ (w : World) (e : Ending) (w' : World) (r : List Int × Bool) : Prop := ∃ sa c, e = .returned (.tuple #[.slice sa r.1.length c, .bool r.2]) ∧ (r.2 = true → OwnZ w' w.heap.size (.slice sa r.1.length c) r.1) ∧ Below w.heap.size w w'
theorem all_take {P : List (List UInt8)} {f : List UInt8 → Bool} (h : P.all f = false) : ∃ i, i < P.length ∧ f (P.getD i []) = false := by
  rw [List.all_eq_false] at h
  obtain ⟨x, hx, hf⟩ := h
  obtain ⟨i, hi, rfl⟩ := List.getElem_of_mem hx
  exact ⟨i, hi, by rw [List.getD_eq_getElem?_getD, List.getElem?_eq_getElem hi]; simpa using hf⟩
theorem getD_mem {P : List (List UInt8)} {i : Nat} (h : i < P.length) : P.getD i [] ∈ P := by
  rw [List.getD_eq_getElem?_getD, List.getElem?_eq_getElem h]; exact List.getElem_mem _
theorem take_snocP {P : List (List UInt8)} {i : Nat} (h : i < P.length) : P.take (i + 1) = P.take i ++ [P.getD i []] := by
  rw [List.take_succ_eq_append_getElem h, List.getD_eq_getElem?_getD, List.getElem?_eq_getElem h]; rfl

set_option maxHeartbeats 2000000 in
theorem s01Numbers_any (w : World) (s : ByteArray) (hs : s.size ≤ 2000000) :
    Calls Tryd.prog 38 #[.string s] w fun e w' => ReadZ w e w' (lstR s.data.toList) := by
  obtain ⟨j0, hj0, hy0, hy1, hy2⟩ := info_parts info_int64
  have HO0 := Lib.hid (OwnZ.start w w.heap.size (Nat.le_refl _))
  have hb0 : Below w.heap.size w (w.alloc (.cells #[] 2)) := (Below.refl _ _).alloc (Nat.le_refl _) _
  have HB0 := Lib.hid hb0
  clear hb0
  by_cases hno : s.data.toList = noneT
  · have hr : lstR s.data.toList = ([], true) := by unfold lstR; rw [if_pos hno]
    rw [hr]
    have hs2 : s = ⟨noneT.toArray⟩ := ba_of hno
    subst hs2
    clear hr hno hs
    go_enter Tryd.func38, Tryd.ntmps38
    go_wp2_with fail
    go_ret2
    exact ⟨_, _, rfl, fun _ => HO0.out, HB0.out⟩
  · have hne : (s.toList == [110, 111, 110, 101]) = false := by
      rw [beq_eq_false_iff_ne, ba_toList]; exact hno
    have KC := Lib.hid (fun W => s01Cut_any W s 44 hs)
    rw [show (((44 : UInt8).toNat : Nat) : Int) = 44 from rfl] at KC
    have hmem := fun p => cutL_mem_le (c := 44) s.data.toList p
    rw [ba_size] at hmem
    obtain ⟨r, hr⟩ : ∃ r, r = lstR s.data.toList := ⟨_, rfl⟩
    rw [← hr]
    have hr2 : r = if (cutL 44 s.data.toList).length ≤ 64 ∧ (cutL 44 s.data.toList).all (fun p => (valD p).2) = true then ((cutL 44 s.data.toList).map fun p => (valD p).1, true) else ([], false) := by
      rw [hr]; unfold lstR; rw [if_neg hno]
    obtain ⟨P, hP⟩ : ∃ P, P = cutL 44 s.data.toList := ⟨_, rfl⟩
    rw [← hP] at KC hmem hr2
    obtain ⟨n, hn⟩ : ∃ n, P.length = n := ⟨_, rfl⟩
    have HR := Lib.hid hr2
    have HM := Lib.hid (fun p hp => Nat.le_trans (hmem p hp) hs)
    have HN := Lib.hid hn
    have hn2 : n ≤ 2000001 := by
      have := cutL_count 44 s.data.toList
      rw [← hP, hn, ba_size] at this
      omega
    rw [hn] at KC
    clear hr hr2 hP hmem hno hs hn
    by_cases h64 : n ≤ 64
    · have hg : decide ((64 : Int) < (n : Int)) = false := decide_eq_false (by omega)
      clear hn2
      go_enter Tryd.func38, Tryd.ntmps38
      go_wp2_with fail
      refine (KC.out _).mono ?_
      rintro e w1 ⟨g, cap, rfl, hst, hb⟩
      have hgg : w.heap.size ≠ g := by have := (hst.lt (k := g) rfl).1; simp at this; omega
      have HST := Lib.hid (And.intro hst (And.intro hgg (HB0.out.trans (hb.mono HB0.out.size))))
      have HO1 := Lib.hid (HO0.out.below hb)
      clear hgg
      clear hst hb KC HO0 HB0
      go_wp2_with fail
      go_loopw [4, 6] (fun v4 v6 wr => ∃ (i g4 cap4 : Nat), v6 = .int .i64 i ∧ i ≤ n ∧ v4 = .slice (some ⟨g4, 0, none⟩) i cap4 ∧ g4 ≠ g ∧ (∀ j, j < i → (valD (P.getD j [])).2 = true) ∧ OwnZ wr w.heap.size (.slice (some ⟨g4, 0, none⟩) i cap4) ((P.take i).map fun p => (valD p).1) ∧ OwnS wr (w.alloc (.cells #[] 2)).heap.size (.slice (some ⟨g, 0, none⟩) n cap) P ∧ Below w.heap.size w wr) (fun _ v6 _ => n - (intOf v6).toNat)
      case atStart => exact ⟨0, _, _, rfl, Nat.zero_le _, rfl, HST.out.2.1, fun j hj => absurd hj (Nat.not_lt_zero _), HO1.out, HST.out.1, HST.out.2.2⟩
      case round =>
        clear HO1
        obtain ⟨i, g4, cap4, rfl, hi, rfl, hng, hok, hown, hst, hb⟩ := hrel
        have HB := Lib.hid hb
        have HS := Lib.hid hst
        have HOW := Lib.hid hown
        have HOK := Lib.hid hok
        have HNG := Lib.hid hng
        by_cases hlt : i < n
        · have hltI : (i : Int) < (n : Int) := by omega
          have c1 := strAt hst i (by rw [HN.out]; exact hlt)
          have hsz := HM.out _ (getD_mem (P := P) (i := i) (by rw [HN.out]; exact hlt))
          have htk := take_snocP (P := P) (i := i) (by rw [HN.out]; exact hlt)
          have hbn := hb.size
          have hgl := (hst.lt (k := g) rfl).2
          have hPm := getD_mem (P := P) (i := i) (by rw [HN.out]; exact hlt)
          obtain ⟨p, hp⟩ : ∃ p, P.getD i [] = p := ⟨_, rfl⟩
          rw [hp] at c1 hsz htk hPm
          have KV := Lib.hid (s01Value_any wr ⟨p.toArray⟩ (by rw [← ba_size]; exact hsz))
          rw [show (⟨p.toArray⟩ : ByteArray).data.toList = p from rfl] at KV
          have HTK := Lib.hid htk
          have HP := Lib.hid (And.intro hp hPm)
          obtain ⟨q, hq⟩ : ∃ q : ByteArray, (⟨p.toArray⟩ : ByteArray) = q := ⟨_, rfl⟩
          rw [hq] at c1 KV
          have hrow : wr.ownsRow w.heap.size 2 1 (.slice (some ⟨g4, 0, none⟩) i cap4) i (zCells ((P.take i).map fun p => (valD p).1)) := by
            have h9 := hown
            unfold OwnZ at h9
            rwa [List.length_map, List.length_take, HN.out, Nat.min_eq_left hi] at h9
          have HROW := Lib.hid hrow
          cases hv : (valD p).2
          · have hrr : r = ([], false) := by
              rw [HR.out, if_neg]
              rintro ⟨-, h2⟩
              rw [List.all_eq_true] at h2
              have := h2 _ HP.out.2
              rw [hv] at this; cases this
            subst hrr
            rw [hv] at KV
            clear hok hown hb hsz htk hp hPm hq hrow hv hst hng
            go_wp2_with fail
            refine KV.out.mono ?_
            rintro e w2 ⟨rfl, hb2⟩
            have HF := Lib.hid (HB.out.trans (hb2.mono HB.out.size))
            clear hb2
            go_wp2_with fail
            go_ret2
            exact ⟨none, 0, rfl, fun h => (by cases h), HF.out⟩
          · have HV := Lib.hid hv
            rw [hv] at KV
            obtain ⟨z, hz⟩ : ∃ z, (valD p).1 = z := ⟨_, rfl⟩
            rw [hz] at KV
            have HZ := Lib.hid hz
            clear hok hown hb hsz htk hp hPm hq hrow hv hz hst hng
            go_wp2_with fail
            refine KV.out.mono ?_
            rintro e w2 ⟨rfl, hb2⟩
            have hrow2 := World.ownsRow.kept HROW.out (grown_below hb2 none) (by simp [Value.ownBlock])
            have HB2 := Lib.hid hb2
            have hb2s := hb2.size
            clear hb2 c1
            go_wp2_with (at_builtin; refine wpList_append_lies _ (by rfl) _ _ _ (by rfl) w.heap.size 2 j0 _ 1 8 Tryd.underlying42 hj0 hy0 hy1 hy2 rfl (by omega) (.slice (some ⟨g4, 0, none⟩) i cap4) i _ (by rfl) (World.ownsRow.alloc hrow2 _) ⟨w2.heap.size, 0, none⟩ 1 1 [.int .i64 z] (by rfl) (by rfl) (cell_one_new _ _ _) (by simp [Value.oneCell']) (by omega) (by unfold maxLen; omega) (by omega) (by simp; omega) (w2.heap.size + 1) (by simp) ?_; intro g3 cap3 w3 hown3 hgrow hat hltg)
            have hrel3 : OwnZ w3 w.heap.size (.slice (some ⟨g3, 0, none⟩) (i + 1) cap3) ((P.take (i + 1)).map fun p => (valD p).1) := by
              rw [HTK.out, List.map_append, List.map_singleton, HZ.out]
              exact own_snocZ (by rw [List.length_map, List.length_take, HN.out, Nat.min_eq_left hi]) hown3
            have hb3 := HB.out.trans (HB2.out.mono HB.out.size)
            have hbw : Below w.heap.size w w3 := (hb3.alloc hb3.size _).grown hgrow (by have := hb3.size; simp; omega) (fun k' hk => (HOW.out.lt hk).1)
            have hs3 : OwnS w3 (w.alloc (.cells #[] 2)).heap.size (.slice (some ⟨g, 0, none⟩) n cap) P := World.ownsRow.kept (World.ownsRow.alloc (HS.out.below HB2.out) _) hgrow (.inr (by simp [Value.ownBlock]; exact fun h => HNG.out h.symm))
            have hng3 : g3 ≠ g := by
              rcases hat with h | h
              · simp [Value.ownBlock] at h
                rw [← h]; exact HNG.out
              · rw [h]; omega
            have HR3 := Lib.hid (And.intro hrel3 (And.intro hbw (And.intro hs3 hng3)))
            clear hrel3 hb3 hbw hs3 hng3 hown3 hgrow hat hrow2
            go_wp2_with fail
            go_roundw
            case rel => exact ⟨i + 1, g3, cap3, by go_num, by omega, rfl, HR3.out.2.2.2, fun j hj => by
                rcases Nat.lt_or_ge j i with h | h
                · exact HOK.out j h
                · obtain rfl : j = i := by omega
                  rw [HP.out.1]; exact HV.out, HR3.out.1, HR3.out.2.2.1, HR3.out.2.1⟩
            case measure => simp [intOf]; omega
        · obtain rfl : i = n := by omega
          have hall : P.all (fun p => (valD p).2) = true := by
            rw [List.all_eq_true]
            intro x hx
            obtain ⟨j, hj, rfl⟩ := List.getElem_of_mem hx
            have := hok j (by rw [← HN.out]; exact hj)
            rwa [List.getD_eq_getElem?_getD, List.getElem?_eq_getElem hj] at this
          have hrr : r = (P.map fun p => (valD p).1, true) := by
            rw [HR.out, if_pos ⟨by rw [HN.out]; exact h64, hall⟩]
          rw [List.take_of_length_le (by rw [HN.out]; exact Nat.le_refl _)] at hown
          have hF : ReadZ w (.returned (.tuple #[.slice (some ⟨g4, 0, none⟩) i cap4, .bool true])) wr r := by
            rw [hrr]
            refine ⟨some ⟨g4, 0, none⟩, cap4, ?_, fun _ => ?_, hb⟩
            · rw [List.length_map, HN.out]
            · show OwnZ _ _ (.slice _ (P.map fun p => (valD p).1).length _) _
              rw [List.length_map, HN.out]; exact hown
          have HF := Lib.hid hF
          clear hall hrr hown hF hb hst hok hng HB HS HOW HOK HNG
          go_wp2_with fail
          go_ret2
          exact HF.out
    · have hrr : r = ([], false) := by rw [HR.out, if_neg (fun h => h64 (by rw [← HN.out]; exact h.1))]
      subst hrr
      have hg : decide ((64 : Int) < (n : Int)) = true := decide_eq_true (by omega)
      go_enter Tryd.func38, Tryd.ntmps38
      go_wp2_with fail
      refine (KC.out _).mono ?_
      rintro e w1 ⟨g, cap, rfl, hst, hb⟩
      have HF := Lib.hid (HB0.out.trans (hb.mono HB0.out.size))
      clear hst hb
      go_wp2_with fail
      go_ret2
      exact ⟨none, 0, rfl, fun h => (by cases h), HF.out⟩

end Go.Proofs.YtcppoadeelnphaaDoor
