/- The exact laws' functions on lists of whole numbers. -/
import Derived.Test.YtogojmimflgmmaaNd
namespace Go.Proofs.Ytogojmimflgmmaa
open Go.RowKit
set_option maxRecDepth 100000
set_option linter.unusedVariables false
set_option linter.unusedSimpArgs false

theorem OwnK.cellAt {w : World} {B g n cap : Nat} {ks : List Int} (h : OwnK w B (.slice (some ⟨g, 0, none⟩) n cap) ks) (i : Nat) (hi : i < ks.length) : w.cell? ⟨g, i, none⟩ = some (.int .i64 (ks.getD i 0)) := by
  have := World.ownsRow.cells (g := g) h rfl i (Value.int .i64 (ks.getD i 0)) (by rw [List.getElem?_map, List.getElem?_eq_getElem hi, List.getD_eq_getElem?_getD, List.getElem?_eq_getElem hi]; rfl)
  have z : (⟨g, 0, none⟩ : Addr).add i = ⟨g, i, none⟩ := by simp [Addr.add]; try omega
  rwa [z] at this
theorem OwnK.form {w : World} {B : Nat} {v : Value} {ks : List Int} (h : OwnK w B v ks) : (v = .slice none 0 0 ∧ ks = []) ∨ ∃ g cap, v = .slice (some ⟨g, 0, none⟩) ks.length cap ∧ ks.length ≤ maxLen := by
  rcases h.2 with ⟨h1, h2⟩ | ⟨g, cap, cur, e, hg, hh, h3, h4, r⟩
  · exact .inl ⟨h1, List.length_eq_zero_iff.1 h2⟩
  · exact .inr ⟨g, cap, e, Nat.le_trans h3 h4⟩
theorem OwnK.nil (w : World) (B : Nat) : OwnK w B (.slice none 0 0) [] := World.ownsRow_nil w B _ _
theorem OwnK.grown {w w' : World} {B : Nat} {v : Value} {ks : List Int} {r : Option Nat} (h : OwnK w B v ks) (hg : w.grownBy w' r) (hne : v.ownBlock = none ∨ v.ownBlock ≠ r) : OwnK w' B v ks := World.ownsRow.kept h hg hne
theorem OwnK.put {w : World} {B g n cap : Nat} {ks : List Int} (h : OwnK w B (.slice (some ⟨g, 0, none⟩) n cap) ks) (hn : ks.length = n) (i : Nat) (z : Int) : OwnK (w.setCell ⟨g, i, none⟩ (.int .i64 z)) B (.slice (some ⟨g, 0, none⟩) n cap) (ks.set i z) := by
  subst hn
  have := (World.ownsRow.stored h i (.int .i64 z)).1
  unfold OwnK
  rw [List.length_set, List.map_set]
  exact this

set_option maxHeartbeats 1000000 in
theorem eqK_yes (w : World) (B1 B2 : Nat) (v1 v2 : Value) (ks : List Int) (h1 : OwnK w B1 v1 ks) (h2 : OwnK w B2 v2 ks) (hn8 : ks.length ≤ 1000) :
    Calls Try.prog 8 #[v1, v2] w fun e w' => e = .returned (.bool true) ∧ Below w.heap.size w w' := by
  obtain ⟨n, hn⟩ : ∃ n, ks.length = n := ⟨_, rfl⟩
  obtain ⟨a1, c1, rfl⟩ : ∃ a c, v1 = .slice a n c := by
    rcases h1.form with ⟨rfl, rfl⟩ | ⟨g, cap, rfl, _⟩
    · exact ⟨none, 0, by rw [← hn]; rfl⟩
    · exact ⟨_, _, by rw [hn]⟩
  obtain ⟨a2, c2, rfl⟩ : ∃ a c, v2 = .slice a n c := by
    rcases h2.form with ⟨rfl, rfl⟩ | ⟨g, cap, rfl, _⟩
    · exact ⟨none, 0, by rw [← hn]; rfl⟩
    · exact ⟨_, _, by rw [hn]⟩
  have hz : ∀ i : Nat, i < n → ∃ b1 b2, a1 = some ⟨b1, 0, none⟩ ∧ a2 = some ⟨b2, 0, none⟩ ∧ b1 < w.heap.size ∧ b2 < w.heap.size ∧ w.cell? ⟨b1, i, none⟩ = some (.int .i64 (ks.getD i 0)) ∧ w.cell? ⟨b2, i, none⟩ = some (.int .i64 (ks.getD i 0)) := fun i hi => by
    rcases h1.form with ⟨_, rfl⟩ | ⟨g, cap, e, _⟩
    · simp at hn; omega
    · rcases h2.form with ⟨_, rfl⟩ | ⟨g2, cap2, e2, _⟩
      · simp at hn; omega
      · injection e with e _ _
        injection e2 with e2 _ _
        subst e e2
        exact ⟨g, g2, rfl, rfl, (h1.lt (k := g) rfl).2, (h2.lt (k := g2) rfl).2, h1.cellAt i (by omega), h2.cellAt i (by omega)⟩
  have HZ := Lib.hid hz
  have hn9 : n ≤ 1000 := by omega
  clear h1 h2 hz hn hn8
  go_enter Try.func8, Try.ntmps8
  go_wp2_with fail
  go_loopw [5] (fun v5 wr => ∃ i : Nat, v5 = .int .i64 i ∧ i ≤ n ∧ Below w.heap.size w wr) (fun v5 _ => n - (intOf v5).toNat)
  case atStart => exact ⟨0, rfl, Nat.zero_le _, Below.refl _ _⟩
  case round =>
    obtain ⟨i, rfl, hi, hb⟩ := hrel
    by_cases hlt : i < n
    · obtain ⟨b1, b2, rfl, rfl, l1, l2, k1, k2⟩ := HZ.out i hlt
      rw [← hb.cell (p := ⟨b1, i, none⟩) l1] at k1
      rw [← hb.cell (p := ⟨b2, i, none⟩) l2] at k2
      have hltI : (i : Int) < (n : Int) := by omega
      generalize ks.getD i 0 = z at *
      have hzz : (z != z) = false := by simp
      have HB := Lib.hid hb
      clear hb
      go_upto_region 6 with fail
      go_quiet (fail)
      have HB2 := Lib.hid (HB.out.trans ((below_drewN (Below.refl _ _) nq).mono HB.out.size))
      clear k1 k2
      go_wp2_with fail
      go_roundw
      case rel => exact ⟨i + 1, by go_num, by omega, HB2.out⟩
      case measure => simp [intOf]; omega
    · obtain rfl : n = i := by omega
      go_wp2_with fail
      go_ret
      exact ⟨rfl, hb⟩

def mksK (k n : Nat) : List Int := (List.range n).map fun i => ((k + i : Nat) : Int)
theorem mksK_len (k n : Nat) : (mksK k n).length = n := by simp [mksK]
theorem mksK_get (k n i : Nat) (h : i < n) : (mksK k n).getD i 0 = ((k + i : Nat) : Int) := by
  unfold mksK
  rw [List.getD_eq_getElem?_getD, List.getElem?_map, List.getElem?_range h]; rfl

set_option maxHeartbeats 1000000 in
theorem markK_any (w : World) (B : Nat) (v : Value) (ks : List Int) (k : Nat) (hk : k ≤ 1000) (hn8 : ks.length ≤ 1000) (h : OwnK w B v ks) :
    Calls Try.prog 11 #[v, .int .i64 k] w fun e w' => e = .returned (.int .i64 ((k + ks.length : Nat) : Int)) ∧ OwnK w' B v (mksK k ks.length) ∧ w.grownBy w' v.ownBlock := by
  rcases h.form with ⟨rfl, rfl⟩ | ⟨g, cap, hv, hm⟩
  · go_enter Try.func11, Try.ntmps11
    go_wp2_with fail
    go_loop [5, 1] (fun v5 v1 => v5 = .int .i64 0 ∧ v1 = .int .i64 k) (fun v5 v1 => 0)
    case atStart => exact ⟨rfl, rfl⟩
    case round =>
      obtain ⟨rfl, rfl⟩ := hrel
      go_wp2
      go_ret
      exact ⟨by simp, h, grown_self _ _⟩
  · generalize hn : ks.length = n at *
    subst hv
    clear hm
    go_enter Try.func11, Try.ntmps11
    go_wp2_with fail
    go_loopw [5, 1] (fun v5 v1 wr => ∃ (i : Nat) (cs : List Int), v5 = .int .i64 i ∧ v1 = .int .i64 ((k : Int) + i) ∧ i ≤ n ∧ cs.length = n ∧ (∀ j, j < i → cs.getD j 0 = ((k + j : Nat) : Int)) ∧ OwnK wr B (.slice (some ⟨g, 0, none⟩) n cap) cs ∧ w.grownBy wr (some g)) (fun v5 v1 _ => n - (intOf v5).toNat)
    case atStart => exact ⟨0, ks, rfl, by simp, Nat.zero_le _, hn, by omega, h, grown_self _ _⟩
    case round =>
      clear h
      obtain ⟨i, cs, rfl, rfl, hi, hl, hq, hown, hg⟩ := hrel
      by_cases hlt : i < n
      · have hc : wr.cell? ⟨g, i, none⟩ = some (.int .i64 (cs.getD i 0)) := hown.cellAt i (by omega)
        have hf : wr.frozen? ⟨g, i, none⟩ = false := World.ownsRow.frozenAt (n := n) (by have := hown; unfold OwnK at this; rw [hl] at this; exact this) i
        have HQ := Lib.hid hq
        have HL := Lib.hid hl
        have HP := Lib.hid (hown.put hl i ((k : Int) + i))
        have HG := Lib.hid hg
        have hltI : (i : Int) < (n : Int) := by omega
        clear hq hl hown hg
        go_wp2_with fail
        go_roundw
        case rel =>
          refine ⟨i + 1, cs.set i ((k : Int) + i), by go_num, by go_num, by omega, by simp [HL.out], fun j hj => ?_, HP.out, grown_trans2 HG.out (grown_setCell _ _ _)⟩
          have hl := HL.out
          by_cases hji : j = i
          · subst hji
            rw [List.getD_eq_getElem?_getD, List.getElem?_set_self (by omega)]
            simp
          · rw [List.getD_eq_getElem?_getD, List.getElem?_set_ne (by omega), ← List.getD_eq_getElem?_getD]
            exact HQ.out j (by omega)
        case measure => simp [intOf]; omega
      · have hin : i = n := by omega
        subst hin
        have e : cs = mksK k i := by
          apply List.ext_getElem
          · rw [mksK_len, hl]
          · intro j h1 h2
            have hj : j < i := by omega
            have q1 := hq j hj
            have q2 := mksK_get k i j hj
            rw [List.getD_eq_getElem?_getD, List.getElem?_eq_getElem h1] at q1
            rw [List.getD_eq_getElem?_getD, List.getElem?_eq_getElem h2] at q2
            simp at q1 q2
            rw [q1, q2]
        subst e
        clear hq hl
        go_wp2_with fail
        go_ret
        exact ⟨by simp, hown, hg⟩

set_option maxHeartbeats 1000000 in
theorem heldK_yes (w : World) (B : Nat) (v : Value) (k n : Nat) (hk : k ≤ 1000) (hn8 : n ≤ 1000) (h : OwnK w B v (mksK k n)) :
    Calls Try.prog 12 #[v, .int .i64 k] w fun e w' => e = .returned (.int .i64 ((k + n : Nat) : Int)) ∧ w = w' := by
  obtain ⟨a1, c1, rfl⟩ : ∃ a c, v = .slice a n c := by
    rcases h.form with ⟨rfl, e⟩ | ⟨g, cap, rfl, _⟩
    · have := congrArg List.length e
      rw [mksK_len] at this
      exact ⟨none, 0, by rw [this]; rfl⟩
    · exact ⟨_, _, by rw [mksK_len]⟩
  have hz : ∀ i : Nat, i < n → ∃ b1, a1 = some ⟨b1, 0, none⟩ ∧ w.cell? ⟨b1, i, none⟩ = some (.int .i64 ((k : Int) + i)) := fun i hi => by
    rcases h.form with ⟨_, e⟩ | ⟨g, cap, e, _⟩
    · have := congrArg List.length e
      rw [mksK_len] at this; simp at this; omega
    · injection e with e _ _
      subst e
      have := h.cellAt i (by rw [mksK_len]; exact hi)
      rw [mksK_get k n i hi] at this
      exact ⟨g, rfl, by rw [this]; simp⟩
  have HZ := Lib.hid hz
  clear h hz
  go_enter Try.func12, Try.ntmps12
  go_wp2_with fail
  go_loop [5, 1] (fun v5 v1 => ∃ i : Nat, v5 = .int .i64 i ∧ v1 = .int .i64 ((k : Int) + i) ∧ i ≤ n) (fun v5 v1 => n - (intOf v5).toNat)
  case atStart => exact ⟨0, rfl, by simp, Nat.zero_le _⟩
  case round =>
    obtain ⟨i, rfl, rfl, hi⟩ := hrel
    by_cases hlt : i < n
    · obtain ⟨b1, rfl, k1⟩ := HZ.out i hlt
      have hltI : (i : Int) < (n : Int) := by omega
      have hzz : ((k : Int) + (i : Int) != (k : Int) + (i : Int)) = false := by simp
      go_wp2_with fail
      go_round
      case rel => exact ⟨i + 1, by go_num, by go_num, by omega⟩
      case measure => simp [intOf]; omega
    · have : i = n := by omega
      subst this
      go_wp2_with fail
      go_ret
      simp

end Go.Proofs.Ytogojmimflgmmaa
