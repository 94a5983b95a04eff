/- Lines of a text: the reference's and the program's; CountOutputs. -/
import Derived.Test.YtegcbbmbmchagaaDoorBb
import Derived.Test.YtegcbbmbmchagaaDoorSj
import Derived.StillTactics
import Derived.Deep.RegionHeld3
namespace Go.Proofs.YtegcbbmbmchagaaDoor
open Go.RowKit
set_option maxRecDepth 100000
set_option linter.unusedVariables false
set_option linter.unusedSimpArgs false

/-- The lines of a text, each ended by a newline, and what is left. -/
def lnsL (l : List UInt8) : List (List UInt8) := (cutL 10 l).dropLast
def restL (l : List UInt8) : List UInt8 := (cutL 10 l).getLastD []
theorem lns_split (l : List UInt8) : cutL 10 l = lnsL l ++ [restL l] := by
  unfold lnsL restL
  have h := cutL_ne 10 l
  rw [List.getLastD_eq_getLast?, List.getLast?_eq_some_getLast h, Option.getD_some, List.dropLast_concat_getLast]
theorem lns_len (l : List UInt8) : (cutL 10 l).length = (lnsL l).length + 1 := by rw [lns_split, List.length_append]; rfl
theorem lns_le (l : List UInt8) : (lnsL l).length ≤ l.length := by have h1 := lns_len l; have h2 := cutL_count 10 l; omega
theorem rest_empty (l : List UInt8) : restL l = [] ↔ l = [] ∨ l.getLast? = some 10 := by
  rw [← cutL_last (c := 10) (l := l)]
  unfold restL
  have h := cutL_ne 10 l
  rw [List.getLastD_eq_getLast?, List.getLast?_eq_some_getLast h, Option.getD_some, Option.some.injEq]
/-- Strings that lie from the beginning of a block on. -/
def StrAt (w : World) (g : Nat) (P : List (List UInt8)) : Prop := g < w.heap.size ∧ ∀ i, i < P.length → w.cell? ⟨g, i, none⟩ = some (.string ⟨(P.getD i []).toArray⟩)
theorem StrAt.below {w w' : World} {g : Nat} {P : List (List UInt8)} (h : StrAt w g P) (hb : Below w.heap.size w w') : StrAt w' g P :=
  ⟨Nat.lt_of_lt_of_le h.1 hb.size, fun i hi => (hb.cell (p := ⟨g, i, none⟩) h.1).trans (h.2 i hi)⟩
theorem StrAt.sub {w : World} {g : Nat} {P Q : List (List UInt8)} (h : StrAt w g (P ++ Q)) : StrAt w g P :=
  ⟨h.1, fun i hi => by
    have := h.2 i (by rw [List.length_append]; omega)
    rw [List.getD_eq_getElem?_getD, List.getElem?_append_left hi, ← List.getD_eq_getElem?_getD] at this
    exact this⟩
theorem OwnS.strAt {w : World} {B g n cap : Nat} {P : List (List UInt8)} (h : OwnS w B (.slice (some ⟨g, 0, none⟩) n cap) P) : StrAt w g P := by
  have hl := (OwnS.lt h (k := g) rfl).2
  refine ⟨hl, fun i hi => ?_⟩
  unfold OwnS at h
  have hn : P.length = n := by
    rcases h.2 with ⟨h1, _⟩ | ⟨g', cap', cur, h1, _⟩
    · simp at h1
    · simp only [Value.slice.injEq] at h1; omega
  rw [hn] at h
  have h2 := World.ownsRow.cellAt h i (by omega)
  rw [h2]
  unfold sCells
  rw [List.getElem?_map, List.getD_eq_getElem?_getD, List.getElem?_eq_getElem hi]
  rfl

set_option maxHeartbeats 2000000 in
theorem s08Lines_any (w : World) (s : ByteArray) (hs : s.size ≤ 2000000) :
    Calls Tryd.prog 17 #[.string s] w fun e w' => ∃ g cap, e = .returned (.tuple #[.slice (some ⟨g, 0, none⟩) (lnsL s.data.toList).length cap, .string ⟨(restL s.data.toList).toArray⟩]) ∧ StrAt w' g (lnsL s.data.toList) ∧ Below w.heap.size w w' := by
  have K := Lib.hid (s01Cut_any w s 10 hs)
  rw [show ((10 : UInt8).toNat : Int) = 10 from rfl] at K
  obtain ⟨P, hP⟩ : ∃ P, P = lnsL s.data.toList := ⟨_, rfl⟩
  obtain ⟨r, hr⟩ : ∃ r, r = restL s.data.toList := ⟨_, rfl⟩
  have hsp := lns_split s.data.toList
  have hle := lns_le s.data.toList
  rw [ba_size] at hle
  rw [← hP, ← hr] at hsp ⊢
  rw [← hP] at hle
  rw [hsp] at K
  obtain ⟨n, hn⟩ : ∃ n, P.length = n := ⟨_, rfl⟩
  have hcl : (P ++ [r]).length = n + 1 := by rw [List.length_append, hn]; rfl
  rw [hcl] at K
  rw [hn] at hle ⊢
  have HN := Lib.hid hn
  clear hP hr hsp hn hcl
  go_enter Tryd.func17, Tryd.ntmps17
  go_wp2_with fail
  refine K.out.mono ?_
  rintro e w1 ⟨g, cap, rfl, hown, hb⟩
  have hst := hown.strAt
  have hcap : n + 1 ≤ cap ∧ cap ≤ maxLen := by
    have h9 := hown
    unfold OwnS at h9
    rcases h9.2 with ⟨h1, _⟩ | ⟨g', cap', cur, h1, h2, h3, h4, h5, h6⟩
    · simp at h1
    · simp only [Value.slice.injEq] at h1
      rw [List.length_append, HN.out] at h4
      simp at h4
      omega
  have hcell := hst.2 n (by rw [List.length_append, HN.out]; simp)
  have hrr : (P ++ [r]).getD n [] = r := by rw [List.getD_eq_getElem?_getD, List.getElem?_append_right (by rw [HN.out]; exact Nat.le_refl _), HN.out]; simp
  rw [hrr] at hcell
  have hcell2 : ∀ q, (w1.drewN q).cell? ⟨g, n, none⟩ = some (.string ⟨r.toArray⟩) := fun q => hcell
  have HF := Lib.hid (And.intro hst.sub hb)
  unfold maxLen at hcap
  have hcap1 := hcap.1
  have hcap2 := hcap.2
  have e1 : IntKind.i64.wrap (((n + 1 : Nat) : Int) - 1) = (n : Int) := by rw [show ((n + 1 : Nat) : Int) - 1 = (n : Int) by omega]; exact IntWalk.i64_in _ (by omega)
  have e2 : (n : Int) ≤ (cap : Int) := by omega
  have e3 : (n : Int) < ((n + 1 : Nat) : Int) := by omega
  clear hst hown hcap hrr hb
  go_wp2_with fail
  go_quiet (fail)
  go_wp2_with fail
  go_ret2
  exact ⟨g, cap, rfl, HF.out.1, HF.out.2.trans ((below_drewN (Below.refl _ _) _).mono HF.out.2.size)⟩

theorem cells_newS (w : World) (cs : List Value) (T : TypeId) (j : Nat) (u : Value) (h : cs[j]? = some u) : (w.alloc (.cells cs.toArray T)).cell? ⟨w.heap.size, j, none⟩ = some u := by
  rw [World.cell?_alloc_new]
  simpa using h
theorem suffix_one (l : List UInt8) : Lib.hasSuffix l (⟨#[10]⟩ : ByteArray).data.toList = decide (l.getLast? = some 10) := by
  unfold Lib.hasSuffix
  rw [Bool.eq_iff_iff, decide_eq_true_eq, List.isSuffixOf_iff_suffix]
  constructor
  · rintro ⟨t, rfl⟩
    show (t ++ [10]).getLast? = some 10
    simp
  · intro h
    obtain ⟨t, rfl⟩ := List.getLast?_eq_some_iff.1 h
    exact ⟨t, rfl⟩

set_option maxHeartbeats 2000000 in
theorem linesOf_any (w : World) (s : ByteArray) (m : Int) (hs : s.size ≤ 2000000) (hm : w.cell? ⟨0, 0, none⟩ = some (.int .i64 m)) :
    Calls Tryd.prog 18 #[.string s] w fun e w' => Below w.heap.size w w' ∧ ((restL s.data.toList ≠ [] ∧ e = .returned (.tuple #[.slice none 0 0, .bool false])) ∨ (restL s.data.toList = [] ∧ ∃ g cap, e = .returned (.tuple #[.slice (some ⟨g, 0, none⟩) (lnsL s.data.toList).length cap, .bool true]) ∧ StrAt w' g (lnsL s.data.toList))) := by
  have hspl := Tryd.strings_Split s ⟨#[10]⟩ m w (by omega) hm (Nat.le_refl _)
  rw [splitB_cutL] at hspl
  have hcnt : Lib.countB s ⟨#[10]⟩ + 1 = (cutL 10 s.data.toList).length := by
    rw [cutL_len]
    have : Lib.countB s ⟨#[10]⟩ = s.data.toList.count 10 := Lib.count_one 10 _
    omega
  rw [hcnt] at hspl
  have hsuf := Tryd.strings_HasSuffix s ⟨#[10]⟩ w (by omega)
  have hsp := lns_split s.data.toList
  have hle := lns_le s.data.toList
  have hre := rest_empty s.data.toList
  rw [ba_size] at hle
  by_cases h0 : s.data.toList = []
  · have hs0 : s = ⟨#[]⟩ := ba_of h0
    subst hs0
    have hc0 : cutL 10 (⟨#[]⟩ : ByteArray).data.toList = [[]] := rfl
    have hl0 : lnsL (⟨#[]⟩ : ByteArray).data.toList = [] := rfl
    have hr0 : restL (⟨#[]⟩ : ByteArray).data.toList = [] := rfl
    rw [hc0] at hspl
    rw [hl0, hr0]
    have KS := Lib.hid hspl
    clear hspl hsuf hsp hle hre hcnt hc0 hl0 hr0 h0
    go_enter Tryd.func18, Tryd.ntmps18
    go_wp2_with fail
    refine KS.out.mono ?_
    rintro e w1 ⟨rfl, rfl⟩
    have hb : Below w.heap.size w (w.alloc (.cells #[.string ⟨#[]⟩] 9)) := (Below.refl _ _).alloc (Nat.le_refl _) _
    go_wp2_with fail
    go_ret2
    exact ⟨hb, .inr ⟨by simp, w.heap.size, 1, rfl, by simp, fun i hi => absurd hi (by simp)⟩⟩
  · have hem : s.toList.isEmpty = false := by
      rw [ba_toList]
      cases h : s.data.toList with
      | nil => exact absurd h h0
      | cons a t => rfl
    rw [suffix_one] at hsuf
    have hre2 : restL s.data.toList = [] ↔ s.data.toList.getLast? = some 10 := ⟨fun h => by rcases hre.1 h with h1 | h1; exact absurd h1 h0; exact h1, fun h => hre.2 (.inr h)⟩
    obtain ⟨P, hP⟩ : ∃ P, P = lnsL s.data.toList := ⟨_, rfl⟩
    obtain ⟨r, hr⟩ : ∃ r, r = restL s.data.toList := ⟨_, rfl⟩
    rw [← hP, ← hr] at hsp ⊢
    rw [← hr] at hre2
    rw [← hP] at hle
    obtain ⟨n, hn⟩ : ∃ n, P.length = n := ⟨_, rfl⟩
    have hcl : (P ++ [r]).length = n + 1 := by rw [List.length_append, hn]; rfl
    rw [hsp, hcl] at hspl
    rw [hn] at hle ⊢
    have HN := Lib.hid hn
    have KS := Lib.hid hspl
    have hnl : (n : Int) ≤ 2000000 := by omega
    cases hd : decide (s.data.toList.getLast? = some 10)
    · rw [hd] at hsuf
      have hrne : r ≠ [] := fun e => of_decide_eq_false hd (hre2.1 e)
      have HR := Lib.hid hrne
      have KH := Lib.hid hsuf
      clear hspl hsuf hsp hcnt hre hre2 hd hrne hle hn hP hr hcl
      go_enter Tryd.func18, Tryd.ntmps18
      go_wp2_with fail
      refine KH.out.mono ?_
      rintro e w1 ⟨rfl, hw⟩
      rw [hw]
      clear hw w1
      go_wp2_with fail
      go_ret2
      exact ⟨Below.refl _ _, .inl ⟨HR.out, rfl⟩⟩
    · rw [hd] at hsuf
      have hr0 : r = [] := hre2.2 (of_decide_eq_true hd)
      have HR := Lib.hid hr0
      have KH := Lib.hid hsuf
      have hb : Below w.heap.size w (w.alloc (.cells (((P ++ [r]).map fun l => (⟨l.toArray⟩ : ByteArray)).map Value.string).toArray 9)) := (Below.refl _ _).alloc (Nat.le_refl _) _
      have hst : StrAt (w.alloc (.cells (((P ++ [r]).map fun l => (⟨l.toArray⟩ : ByteArray)).map Value.string).toArray 9)) w.heap.size P := by
        refine ⟨by simp, fun i hi => ?_⟩
        have h1 : (((P ++ [r]).map fun l => (⟨l.toArray⟩ : ByteArray)).map Value.string)[i]? = some (.string ⟨(P.getD i []).toArray⟩) := by
          rw [List.map_map, List.getElem?_map, List.getElem?_append_left hi, List.getD_eq_getElem?_getD, List.getElem?_eq_getElem hi]
          rfl
        obtain ⟨V, hV⟩ : ∃ V, (((P ++ [r]).map fun l => (⟨l.toArray⟩ : ByteArray)).map Value.string) = V := ⟨_, rfl⟩
        rw [hV] at h1 ⊢
        have h2 := cells_newS w V 9 i _ h1
        exact h2
      have HF := Lib.hid (And.intro hb hst)
      have e1 : IntKind.i64.wrap (((n + 1 : Nat) : Int) - 1) = (n : Int) := by rw [show ((n + 1 : Nat) : Int) - 1 = (n : Int) by omega]; exact IntWalk.i64_in _ (by omega)
      have e2 : (n : Int) ≤ ((n + 1 : Nat) : Int) := by omega
      clear hspl hsuf hsp hcnt hre hre2 hd hr0 hle hn hP hr hcl hb hst
      generalize (((P ++ [r]).map fun l => (⟨l.toArray⟩ : ByteArray)).map Value.string).toArray = V at *
      go_enter Tryd.func18, Tryd.ntmps18
      go_wp2_with fail
      refine KH.out.mono ?_
      rintro e w1 ⟨rfl, hw⟩
      rw [hw]
      clear hw w1
      go_wp2_with fail
      refine KS.out.mono ?_
      rintro e w1 ⟨rfl, rfl⟩
      go_wp2_with fail
      go_ret2
      exact ⟨HF.out.1, .inr ⟨HR.out, w.heap.size, n + 1, rfl, HF.out.2⟩⟩

end Go.Proofs.YtegcbbmbmchagaaDoor
