/- slices.Backward, rows that a call owns, integers that a call owns; least numbers, prices and costs of rows by words. -/
import Derived.Test.YtabbjilgpfnacaaGreatEs
import Derived.RangeFuncNested
import Derived.RangeFuncBound
import Derived.RangeFuncCalls
import Derived.RangeFuncLeaves
import Derived.RangeFuncBox
import Derived.Shelf.Abstract
import Derived.Shelf.RegionOpen
import Derived.WalkKit
import Derived.OwnWalkIn
import Derived.TacticsInMore
import Derived.LoopNIn
import Derived.LoopIn
import Derived.Maps.AppendAt
import Derived.Laws.OwnMore
namespace Go.Proofs.YtabbjilgpfnacaaGreat
open Go.RowKit Go.Shelf
set_option maxRecDepth 100000
set_option linter.unusedVariables false
set_option linter.unusedSimpArgs false

theorem ext_getD {a b : List Int} (h : a.length = b.length) (hd : ∀ d, d < a.length → a.getD d 0 = b.getD d 0) : a = b := by
  apply List.ext_getElem h
  intro i h1 h2
  have := hd i h1
  rwa [List.getD_eq_getElem?_getD, List.getD_eq_getElem?_getD, List.getElem?_eq_getElem h1, List.getElem?_eq_getElem h2] at this
theorem below_of_grown2 {w wr : World} (h : w.grownBy wr none) : Below w.heap.size w wr := ⟨h.os, h.tape, h.output, h.size, fun k hk => h.block k hk (by simp)⟩
theorem info_i64 : (Tryz.prog.info? 2).map (fun i => (i.zero, i.size, i.bytes)) = some (some (.int .i64 0), 1, 8) := by kernel_rfl
/-- A slice of integers of the call's own. -/
def OwnI (w : World) (B : Nat) (v : Value) (ks : List Int) : Prop := w.ownsRow B 2 1 v ks.length (ks.map (Value.int .i64))
theorem OwnI.cellAt {w : World} {B g n cap : Nat} {ks : List Int} (h : OwnI w B (.slice (some ⟨g, 0, none⟩) n cap) ks) (i : Nat) (hi : i < ks.length) : w.cell? ⟨g, i, none⟩ = some (.int .i64 (ks.getD i 0)) := by
  have := World.ownsRow.cells (g := g) h rfl i (Value.int .i64 (ks.getD i 0)) (by rw [List.getElem?_map, List.getElem?_eq_getElem hi, List.getD_eq_getElem?_getD, List.getElem?_eq_getElem hi]; rfl)
  by_cases h0 : i = 0
  · subst h0; simpa [Addr.add] using this
  · simpa [Addr.add, h0] using this
theorem OwnI.len {w : World} {B g n cap : Nat} {ks : List Int} (h : OwnI w B (.slice (some ⟨g, 0, none⟩) n cap) ks) : ks.length = n ∧ n ≤ cap ∧ cap ≤ maxLen := by
  rcases h.2 with ⟨h1, _⟩ | ⟨g', cap', cur, h1, h2, h3, h4, h5, h6⟩
  · cases h1
  · simp only [Value.slice.injEq] at h1
    omega
theorem OwnI.free {w : World} {B g n cap : Nat} {ks : List Int} (h : OwnI w B (.slice (some ⟨g, 0, none⟩) n cap) ks) (i : Nat) : w.frozen? ⟨g, i, none⟩ = false := World.ownsRow.frozenAt (n := n) (by have := h; unfold OwnI at this; rw [h.len.1] at this; exact this) i
theorem OwnI.put {w : World} {B g n cap : Nat} {ks : List Int} (h : OwnI w B (.slice (some ⟨g, 0, none⟩) n cap) ks) (i : Nat) (z : Int) : OwnI (w.setCell ⟨g, i, none⟩ (.int .i64 z)) B (.slice (some ⟨g, 0, none⟩) n cap) (ks.set i z) := by
  have hn := h.len.1
  subst hn
  have := (World.ownsRow.stored h i (.int .i64 z)).1
  unfold OwnI
  simpa [List.map_set] using this
theorem OwnI.grown {w w' : World} {B : Nat} {v : Value} {ks : List Int} {r : Option Nat} (h : OwnI w B v ks) (hg : w.grownBy w' r) (hne : v.ownBlock = none ∨ v.ownBlock ≠ r) : OwnI w' B v ks := World.ownsRow.kept h hg hne
theorem OwnI.below {w w' : World} {B : Nat} {v : Value} {ks : List Int} (h : OwnI w B v ks) (hb : Below w.heap.size w w') : OwnI w' B v ks := h.grown (grown_below hb none) (by cases v.ownBlock <;> simp)
theorem OwnI.lt {w : World} {B : Nat} {v : Value} {ks : List Int} (h : OwnI w B v ks) {k : Nat} (hk : v.ownBlock = some k) : B ≤ k ∧ k < w.heap.size := World.ownsRow.lt h k hk

/-- How far a list has been turned round. -/
def TurnedI (ks cs : List Int) (i : Nat) : Prop := cs.length = ks.length ∧ ∀ k, k < ks.length → cs.getD k 0 = if k < i ∨ ks.length ≤ k + i then ks.getD (ks.length - 1 - k) 0 else ks.getD k 0
theorem getD_set_ne (cs : List Int) {i k : Nat} (z : Int) (h : i ≠ k) : (cs.set i z).getD k 0 = cs.getD k 0 := by
  rw [List.getD_eq_getElem?_getD, List.getElem?_set_ne h, ← List.getD_eq_getElem?_getD]
theorem getD_set_self (cs : List Int) {i : Nat} (z : Int) (h : i < cs.length) : (cs.set i z).getD i 0 = z := by
  rw [List.getD_eq_getElem?_getD, List.getElem?_set_self h]; rfl
theorem TurnedI.step {ks cs : List Int} {i : Nat} (h : TurnedI ks cs i) (hi : i < ks.length - 1 - i) : TurnedI ks ((cs.set i (cs.getD (ks.length - 1 - i) 0)).set (ks.length - 1 - i) (cs.getD i 0)) (i + 1) := by
  obtain ⟨h1, h2⟩ := h
  refine ⟨by simpa using h1, fun k hk => ?_⟩
  by_cases e1 : k = ks.length - 1 - i
  · subst e1
    rw [getD_set_self _ _ (by simp; omega), if_pos (by omega), h2 i (by omega), if_neg (by omega)]
    congr 1; omega
  · rw [getD_set_ne _ _ (Ne.symm e1)]
    by_cases e2 : k = i
    · subst e2
      rw [getD_set_self _ _ (by omega), if_pos (by omega), h2 _ (by omega), if_neg (by omega)]
    · rw [getD_set_ne _ _ (Ne.symm e2), h2 k hk]
      by_cases e3 : k < i ∨ ks.length ≤ k + i
      · rw [if_pos e3, if_pos (by omega)]
      · rw [if_neg e3, if_neg (by omega)]
theorem TurnedI.done {ks cs : List Int} {i : Nat} (h : TurnedI ks cs i) (hi : ks.length - 1 - i ≤ i) : cs = ks.reverse := by
  obtain ⟨h1, h2⟩ := h
  apply ext_getD
  · simpa using h1
  · intro d hd
    rw [h2 d (by omega)]
    have e : ks.reverse.getD d 0 = ks.getD (ks.length - 1 - d) 0 := by
      rw [List.getD_eq_getElem?_getD, List.getD_eq_getElem?_getD, List.getElem?_reverse (by omega)]
    rw [e]
    by_cases e3 : d < i ∨ ks.length ≤ d + i
    · rw [if_pos e3]
    · rw [if_neg e3]; congr 1; omega

set_option maxHeartbeats 1000000 in
theorem reverse_any (w : World) (B g n cap : Nat) (ks : List Int) (h : OwnI w B (.slice (some ⟨g, 0, none⟩) n cap) ks) (hn1 : 1 ≤ n) (hn2 : n ≤ 1000) :
    Calls Tryz.prog 82 #[.slice (some ⟨g, 0, none⟩) n cap] w fun e w' => OwnI w' B (.slice (some ⟨g, 0, none⟩) n cap) ks.reverse ∧ w.grownBy w' (some g) ∧ ∃ v, e = .returned v := by
  have hl := h.len.1
  have HL := Lib.hid hl
  clear hl
  have start : TurnedI ks ks 0 := ⟨rfl, fun k hk => by rw [if_neg (by omega)]⟩
  go_enter Tryz.func82, Tryz.ntmps82
  go_wp2_with fail
  go_loopw [2, 3] (fun v2 v3 wr => ∃ (i : Nat) (cs : List Int), v2 = .int .i64 i ∧ v3 = .int .i64 ((n : Int) - 1 - i) ∧ 2 * i ≤ n + 1 ∧ TurnedI ks cs i ∧ OwnI wr B (.slice (some ⟨g, 0, none⟩) n cap) cs ∧ w.grownBy wr (some g)) (fun v2 _ _ => n - (intOf v2).toNat)
  case atStart => exact ⟨0, ks, rfl, by simp, by omega, start, h, grown_refl _ _⟩
  case round =>
    clear start h
    obtain ⟨i, cs, rfl, rfl, hi, ht, hown, hg⟩ := hrel
    have hcl : cs.length = n := by rw [ht.1, HL.out]
    by_cases hlt : 2 * i + 1 < n
    · obtain ⟨j, hj⟩ : ∃ j, j = n - 1 - i := ⟨_, rfl⟩
      have hjn : j < n := by omega
      have hij : i < j := by omega
      have ej : (n : Int) - 1 - (i : Int) = (j : Int) := by omega
      have k1 := hown.cellAt i (by omega)
      have k2 := hown.cellAt j (by omega)
      have f1 := hown.free i
      have f2 := hown.free j
      have hst := ht.step (by rw [HL.out]; omega)
      rw [HL.out, ← hj] at hst
      have p1 := fun z1 z2 => (hown.put i z1).put j z2
      have p2 := fun z1 z2 => (hown.put j z2).put i z1
      have HST := Lib.hid hst
      have P1 := Lib.hid p1
      have P2 := Lib.hid p2
      have HJ := Lib.hid hj
      have HT := Lib.hid ht
      generalize hx : cs.getD i 0 = x at *
      generalize hy : cs.getD j 0 = y at *
      rw [ej]
      clear hj hst p1 p2 hown ht ej hx hy hcl
      have b1 : (j : Int) < (n : Int) := by omega
      have b2 : (i : Int) < (n : Int) := by omega
      have b3 : (i : Int) < (j : Int) := by omega
      have ne1 : ¬ i = j := by omega
      have ne2 : ¬ j = i := by omega
      go_wp2
      go_region
      all_goals
        go_wp2
        go_roundw
        case rel =>
          refine ⟨i + 1, _, by go_num, ?_, by omega, HST.out, P1.out y x, ?_⟩
          · have := HJ.out
            congr 1; omega
          · exact grown_trans (grown_trans hg (grown_setCell _ _ _)) (grown_trans (grown_setCell _ _ _) (grown_drewN _ 1 _))
        case measure => simp [intOf]; omega
    · have hdone : cs = ks.reverse := ht.done (by rw [HL.out]; omega)
      subst hdone
      have b1 : ¬ (i : Int) < (n : Int) - 1 - (i : Int) := by omega
      go_wp2
      go_end0
      exact ⟨hown, hg, _, rfl⟩

/-- A slice of zeros made anew. -/
theorem makeI (w : World) (n B : Nat) (hB : B ≤ w.heap.size) (hn : n ≤ 1000) :
    ∃ w', (Instr.makeSlice 81 (.int .i64 (n : Int)) (.int .i64 (n : Int))).run Tryz.prog w = .ok (.slice (some ⟨w.heap.size, 0, none⟩) n n) w' ∧ OwnI w' B (.slice (some ⟨w.heap.size, 0, none⟩) n n) (List.replicate n 0) ∧ Below w.heap.size w w' ∧ w.heap.size < w'.heap.size := by
  obtain ⟨i0, hi0, hz0, hz1, hz2⟩ := info_parts info_i64
  obtain ⟨w', h1, h2, h3⟩ := run_makeSlice_full (P := Tryz.prog) (w := w) B 81 2 i0 (.int .i64 0) 1 (by rfl) hi0 hz0 hz1 .i64 .i64 n (by omega) (by rw [hz2]; omega) (by unfold maxLen; omega) hB
  have h4 : (madeCells (Value.cells (.int .i64 0)) (n * 1)).toList = (List.replicate n (0 : Int)).map (Value.int .i64) := by
    rw [Nat.mul_one, List.map_replicate]; exact toList_madeCells_one _ _
  refine ⟨w', h1, ?_, below_of_grown2 h3, ?_⟩
  · unfold OwnI; rw [List.length_replicate, ← h4]; exact h2
  · exact (World.ownsRow.lt h2 w.heap.size rfl).2

/-- A row of one-cell elements of the call's own. -/
def OwnT (t : TypeId) (w : World) (B : Nat) (v : Value) (ks : List Value) : Prop := w.ownsRow B t 1 v ks.length ks
theorem OwnT.cellAt {t : TypeId} {w : World} {B g n cap : Nat} {ks : List Value} (h : OwnT t w B (.slice (some ⟨g, 0, none⟩) n cap) ks) (i : Nat) {u : Value} (hu : ks[i]? = some u) : w.cell? ⟨g, i, none⟩ = some u := by
  have := World.ownsRow.cells (g := g) h rfl i u hu
  by_cases h0 : i = 0
  · subst h0; simpa [Addr.add] using this
  · simpa [Addr.add, h0] using this
theorem OwnT.len {t : TypeId} {w : World} {B g n cap : Nat} {ks : List Value} (h : OwnT t w B (.slice (some ⟨g, 0, none⟩) n cap) ks) : ks.length = n ∧ n ≤ cap ∧ cap ≤ maxLen := by
  rcases h.2 with ⟨h1, _⟩ | ⟨g', cap', cur, h1, h2, h3, h4, h5, h6⟩
  · cases h1
  · simp only [Value.slice.injEq] at h1
    omega
theorem OwnT.grown {t : TypeId} {w w' : World} {B : Nat} {v : Value} {ks : List Value} {r : Option Nat} (h : OwnT t w B v ks) (hg : w.grownBy w' r) (hne : v.ownBlock = none ∨ v.ownBlock ≠ r) : OwnT t w' B v ks := World.ownsRow.kept h hg hne
theorem OwnT.below {t : TypeId} {w w' : World} {B : Nat} {v : Value} {ks : List Value} (h : OwnT t w B v ks) (hb : Below w.heap.size w w') : OwnT t w' B v ks := h.grown (grown_below hb none) (by cases v.ownBlock <;> simp)
theorem OwnT.lt {t : TypeId} {w : World} {B : Nat} {v : Value} {ks : List Value} (h : OwnT t w B v ks) {k : Nat} (hk : v.ownBlock = some k) : B ≤ k ∧ k < w.heap.size := World.ownsRow.lt h k hk
theorem OwnT.mono {t : TypeId} {w : World} {B B' : Nat} {v : Value} {ks : List Value} (h : OwnT t w B v ks) (hB : B' ≤ B) : OwnT t w B' v ks := by
  obtain ⟨h1, h2⟩ := h
  refine ⟨h1, ?_⟩
  rcases h2 with h | ⟨g, cap, cur, h4, h5, h6⟩
  · exact .inl h
  · exact .inr ⟨g, cap, cur, h4, by omega, h6⟩
theorem OwnT.start (t : TypeId) (w : World) : OwnT t (w.alloc (.cells #[] t)) w.heap.size (.slice (some ⟨w.heap.size, 0, none⟩) 0 0) [] :=
  ⟨rfl, .inr ⟨w.heap.size, 0, #[], rfl, Nat.le_refl _, heap_alloc_new w _, Nat.le_refl _, by unfold maxLen; omega, rfl, rfl⟩⟩

theorem info_int : (Tryz.prog.info? 3).map (fun i => (i.zero, i.size, i.bytes)) = some (some (.int .i64 0), 1, 8) := by kernel_rfl

theorem info_ints : (Tryz.prog.info? 108).map (fun i => (i.zero, i.size, i.bytes)) = some (some (.slice none 0 0), 1, 24) := by kernel_rfl

attribute [local go_sem] Oper.semAt_some

/-- The places of a row, from the last one down. -/
def dn (len k : Nat) : List (Fin len) := (List.range k).filterMap fun j => if h : len - 1 - j < len then some ⟨len - 1 - j, h⟩ else none
theorem dn_succ {len k : Nat} (h : k < len) : dn len (k + 1) = dn len k ++ [⟨len - 1 - k, by omega⟩] := by
  unfold dn
  rw [List.range_succ, List.filterMap_append]
  simp [show len - 1 - k < len by omega]
theorem dn_length {len : Nat} : ∀ k, k ≤ len → (dn len k).length = k := by
  intro k
  induction k with
  | zero => intro _; rfl
  | succ k ih => intro h; rw [dn_succ (by omega), List.length_append, ih (by omega)]; rfl

/-- What a round keeps: the blocks below a bound, and one block more. -/
def KpB (n₀ Bs : Nat) (W W' : World) : Prop := Below n₀ W W' ∧ W'.heap[Bs]? = W.heap[Bs]?
theorem KpB.refl (n₀ Bs : Nat) (W : World) : KpB n₀ Bs W W := ⟨Below.refl _ _, rfl⟩
theorem KpB.trans {n₀ Bs : Nat} {A B C : World} (h : KpB n₀ Bs A B) (k : KpB n₀ Bs B C) : KpB n₀ Bs A C := ⟨h.1.trans k.1, k.2.trans h.2⟩
theorem KpB.put {n₀ Bs : Nat} {w : World} (hn : n₀ ≤ w.heap.size) (hb : Bs < w.heap.size) : ∀ (W : World) (l : Nat) (o o' : Obj), w.heap.size ≤ l → W.heap[l]? = some o → o.isCells = false → o.isWalk = false → KpB n₀ Bs W (W.putObj l o') := fun W l o o' hl ho hc hw =>
  ⟨belowK_b (w := w) hn W l o o' hl ho hc hw, World.putObj_heap_other (by omega)⟩

set_option maxHeartbeats 2000000 in
theorem back1_in (F : Fence) (n : Nat) (hF : F.fn 100) (hro : F.round = none) (hn : 1 ≤ n) (l Bs n₀ b len cap dp : Nat) (gs cs : Nat → Nat) (hreach : len ≤ 1000) (hb : b < n₀) (J Jx : List (Fin len) → World → Prop)
    (hY : ∀ pre x W, J pre W → pre.length < len → YieldAt F (n - 1) Tryz.prog l #[.int .i64 (x.1 : Nat), .slice (some ⟨gs x.1, 0, none⟩) dp (cs x.1)] W fun e W' =>
      (e = .returned (.bool true) ∧ J (pre ++ [x]) W' ∧ KpB n₀ Bs W W') ∨ (e = .returned (.bool false) ∧ Jx (pre ++ [x]) W'))
    (W : World) (hBs : W.cell? ⟨Bs, 0, none⟩ = some (.slice (some ⟨b, 0, none⟩) len cap)) (hc : ∀ j, j < len → W.cell? ⟨b, j, none⟩ = some (.slice (some ⟨gs j, 0, none⟩) dp (cs j))) (h0 : J [] W) :
    CallsIn F n Tryz.prog 100 #[.func (.yield l) #[] #[], .pointer (some ⟨Bs, 0, none⟩)] W fun e W' => (∃ v, e = .returned v) ∧
      ((∃ ys, ys = dn len len ∧ J ys W') ∨ (∃ pre, (∃ k, k ≤ len ∧ pre = dn len k) ∧ Jx pre W')) := by
  refine callsIn_of_wp Tryz.func100 rfl hF ?_ hro
  simp only [Tryz.ntmps100, List.size_toArray, List.length_cons, List.length_nil, Nat.reduceAdd, Nat.reduceSub, Array.replicate_succ, Array.replicate_zero, List.push_toArray, List.append_toArray, List.nil_append, List.cons_append]
  have hL : (len : Int) ≤ 1000 := by omega
  gi_wp2
  gi_loopw [3] (fun i wr => ∃ k : Nat, k ≤ len ∧ i = .int .i64 ((len : Int) - 1 - k) ∧ J (dn len k) wr ∧ KpB n₀ Bs W wr)
    (fun i _ => ((intOf i) + 1).toNat)
  case atStart => exact ⟨0, Nat.zero_le _, by simp, h0, KpB.refl _ _ _⟩
  case round =>
    obtain ⟨k, hk, rfl, hJs, hnx⟩ := hrel
    have hcx : k < len → wr.cell? ⟨b, len - 1 - k, none⟩ = some (.slice (some ⟨gs (len - 1 - k), 0, none⟩) dp (cs (len - 1 - k))) := fun h => (hnx.1.cell (p := ⟨b, len - 1 - k, none⟩) hb).trans (hc _ (by omega))
    have hbx : wr.cell? ⟨Bs, 0, none⟩ = some (.slice (some ⟨b, 0, none⟩) len cap) := (World.cell?_of_block hnx.2).trans hBs
    by_cases hlt : k < len
    · obtain ⟨fn, tmps, assign, body, hy, hR⟩ := hY _ ⟨len - 1 - k, by omega⟩ wr hJs (by rw [dn_length k hk]; exact hlt)
      dsimp only at hy
      have hcx' := hcx hlt
      have e1 : (len : Int) - 1 - k = ((len - 1 - k : Nat) : Int) := by omega
      rw [← dn_succ hlt] at hR
      generalize hm : len - 1 - k = m at *
      rw [e1]
      have hm1 : (m : Int) < len := by omega
      have hm2 : (m : Int) - 1 = (len : Int) - 1 - ((k + 1 : Nat) : Int) := by omega
      gi_wp2
      refine hR.mono ?_
      rintro e W3 (⟨rfl, hJ3, hk3⟩ | ⟨rfl, hJx3⟩)
      · gi_wp2
        go_roundw
        case rel => exact ⟨k + 1, by omega, by congr 1, hJ3, hnx.trans hk3⟩
        case measure => simp [intOf]; omega
      · gi_wp2
        refine bodyPost_ret (results_none rfl _ _ _) rfl ?_
        exact ⟨⟨_, rfl⟩, .inr ⟨_, ⟨k + 1, by omega, rfl⟩, hJx3⟩⟩
    · obtain rfl : k = len := by omega
      gi_wp2
      go_end0
      exact ⟨⟨_, rfl⟩, .inl ⟨_, rfl, hJs⟩⟩

theorem back_seq (F : Fence) (n : Nat) (hF : F.fn 100) (hro : F.round = none) (hn : 1 ≤ n) (Bs n₀ b len cap dp : Nat) (gs cs : Nat → Nat) (hreach : len ≤ 1000) (hb : b < n₀) (w : World) (hn₀ : n₀ ≤ w.heap.size) (hBl : Bs < w.heap.size)
    (hBs : w.cell? ⟨Bs, 0, none⟩ = some (.slice (some ⟨b, 0, none⟩) len cap)) (hc : ∀ j, j < len → w.cell? ⟨b, j, none⟩ = some (.slice (some ⟨gs j, 0, none⟩) dp (cs j))) :
    SeqStopsK F n Tryz.prog 100 #[.pointer (some ⟨Bs, 0, none⟩)] (fun x : Fin len => #[.int .i64 (x.1 : Nat), .slice (some ⟨gs x.1, 0, none⟩) dp (cs x.1)]) (KpB n₀ Bs) (fun ys => ys = dn len len)
      (fun pre => ∃ k, k ≤ len ∧ pre = dn len k) len w := fun l J Jx W hW _ _ hY h0 =>
  back1_in F n hF hro hn l Bs n₀ b len cap dp gs cs hreach hb J Jx hY W ((hW.cell (p := ⟨Bs, 0, none⟩) hBl).trans hBs) (fun j hj => (hW.cell (p := ⟨b, j, none⟩) (by show b < _; omega)).trans (hc j hj)) h0

theorem backward_any (a : Option Addr) (len cap : Nat) (w : World) :
    Calls Tryz.prog 81 #[.slice a len cap] w fun e w' => e = .returned (.func (.func 100) #[] #[.pointer (some ⟨w.heap.size, 0, none⟩)]) ∧ w' = w.alloc (.cells #[.slice a len cap] 106) := by
  go_enter Tryz.func81, Tryz.ntmps81
  go_wp2
  go_ret
  exact ⟨rfl, rfl⟩

theorem priceE (w : World) (o m a b : Nat) (ha : a < 100) (hb : b < 100) :
    Calls Tryz.prog 79 #[.agg #[.float .f32 o, .float .f32 m], .int .i64 a, .int .i64 b] w fun e w' => e = .returned (.float .f32 (prW o m a b)) ∧ Below w.heap.size w w' := by
  by_cases h1 : a = b
  · have e : prW o m a b = 0 := by unfold prW; rw [if_pos h1]
    rw [e]
    clear e
    subst h1
    go_enter Tryz.func79, Tryz.ntmps79
    go_wp2
    go_ret
    exact ⟨rfl, (Below.refl _ _).alloc (Nat.le_refl _) _⟩
  · obtain ⟨D, hD⟩ : ∃ D : Int, D = (a : Int) - b := ⟨_, rfl⟩
    have k0 : (D == 0) = false := by rw [beq_eq_false_iff_ne]; omega
    have hw : IntKind.i64.wrap ((a : Int) - b) = D := by rw [← hD]; exact IntWalk.i64_in _ (by omega)
    by_cases h2 : a = b + 1
    · have e : prW o m a b = o := by unfold prW; rw [if_neg h1, if_pos (.inl h2)]
      have k1 : (D == 1) = true := by rw [beq_iff_eq]; omega
      rw [e]
      clear e h1 h2 hD
      go_enter Tryz.func79, Tryz.ntmps79
      go_wp2
      go_ret
      exact ⟨rfl, (Below.refl _ _).alloc (Nat.le_refl _) _⟩
    · have k1 : (D == 1) = false := by rw [beq_eq_false_iff_ne]; omega
      by_cases h3 : b = a + 1
      · have e : prW o m a b = o := by unfold prW; rw [if_neg h1, if_pos (.inr h3)]
        have k2 : (D == -1) = true := by rw [beq_iff_eq]; omega
        rw [e]
        clear e h1 h2 h3 hD
        go_enter Tryz.func79, Tryz.ntmps79
        go_wp2
        go_ret
        exact ⟨rfl, (Below.refl _ _).alloc (Nat.le_refl _) _⟩
      · have e : prW o m a b = m := by unfold prW; rw [if_neg h1, if_neg (fun g => g.elim h2 h3)]
        have k2 : (D == -1) = false := by rw [beq_eq_false_iff_ne]; omega
        rw [e]
        clear e h1 h2 h3 hD
        go_enter Tryz.func79, Tryz.ntmps79
        go_wp2
        go_ret
        exact ⟨rfl, (Below.refl _ _).alloc (Nat.le_refl _) _⟩

theorem firstLeastE (w : World) (b off n c : Nat) (f : Nat → Nat) (hn : 1 ≤ n) (hn2 : n ≤ 1000) (h : ∀ i, i < n → w.cell? ⟨b, off + i, none⟩ = some (.float .f32 (f i))) :
    Calls Tryz.prog 80 #[.slice (some ⟨b, off, none⟩) n c] w fun e w' => e = .returned (.int .i64 (fstW f n : Nat)) ∧ ∃ m, w' = w.drewN m := by
  have HZ := Lib.hid h
  clear h
  go_enter Tryz.func80, Tryz.ntmps80
  go_wp2_with fail
  go_loopw [3, 8] (fun v3 v8 wr => ∃ d i m : Nat, v3 = .int .i64 d ∧ v8 = .int .i64 i ∧ i ≤ n ∧ d = fstW f i ∧ wr = w.drewN m) (fun _ v8 _ => n - (intOf v8).toNat)
  case atStart => exact ⟨0, 0, 0, rfl, rfl, Nat.zero_le _, rfl, rfl⟩
  case round =>
    obtain ⟨d, i, m, rfl, rfl, hi, hd, rfl⟩ := hrel
    have HD := Lib.hid hd
    by_cases hlt : i < n
    · have hdi : d < n := by
        rcases Nat.eq_zero_or_pos i with h0 | h0
        · subst h0; rw [hd]; show 0 < n; omega
        · have := fstW_lt f i h0; omega
      clear hd
      have z1 := HZ.out i hlt
      have z2 := HZ.out d hdi
      have dI : (d : Int) < n := by omega
      have iI : (i : Int) < n := by omega
      cases l1 : lt32 (f i) (f d)
      · have HN := Lib.hid (show d = fstW f (i + 1) by unfold fstW; rw [← HD.out, l1]; rfl)
        generalize f i = u1 at *
        generalize f d = u2 at *
        go_wp2
        go_roundw
        case rel => exact ⟨d, i + 1, _, rfl, by go_num, by omega, HN.out, rfl⟩
        case measure => simp [intOf]; omega
      · have HN := Lib.hid (show i = fstW f (i + 1) by unfold fstW; rw [← HD.out, l1]; rfl)
        generalize f i = u1 at *
        generalize f d = u2 at *
        go_wp2
        go_roundw
        case rel => exact ⟨i, i + 1, _, rfl, by go_num, by omega, HN.out, rfl⟩
        case measure => simp [intOf]; omega
    · have : i = n := by omega
      subst this
      clear hd
      go_wp2
      go_ret
      exact ⟨by simp; rw [← HD.out], _, rfl⟩

theorem solve1E (W : World) (z : Nat) :
    Calls Tryz.prog 78 #[.float .f32 z] W fun e w' => e = .returned (.bool (!le32 0 z)) ∧ W = w' := by
  cases l1 : le32 0 z
  · obtain ⟨l2, l3, l4⟩ := le_no l1
    go_enter Tryz.func78, Tryz.ntmps78
    go_wp2
    go_ret
    exact ⟨by simp [*], rfl⟩
  · go_enter Tryz.func78, Tryz.ntmps78
    go_wp2
    go_ret
    exact ⟨by simp [l1], rfl⟩

theorem containsSolveE (w : World) (b off n cap : Nat) (f : Nat → Nat) (v : Bool) (hn : n ≤ 1000) (hc : n ≤ cap) (hc2 : cap ≤ 9223372036854775807) (h : ∀ i, i < n → w.cell? ⟨b, off + i, none⟩ = some (.float .f32 (f i)))
    (hv : v = true → ∃ i, i < n ∧ le32 0 (f i) = false) (hv2 : v = false → ∀ i, i < n → le32 0 (f i) = true) :
    Calls Tryz.prog 77 #[.slice (some ⟨b, off, none⟩) n cap, .func (.func 78) #[] #[]] w fun e w' => e = .returned (.bool v) ∧ ∃ q, w' = w.drewN q := by
  have K : Calls Tryz.prog 99 #[.slice (some ⟨b, off, none⟩) n cap, .func (.func 78) #[] #[]] w fun e w' => (∃ z : Int, e = .returned (.int .i64 z) ∧ (v = true → 0 ≤ z) ∧ (v = false → z = -1) ∧ z ≤ 1000) ∧ ∃ q, w' = w.drewN q := by
    have HZ := Lib.hid h
    have HV := Lib.hid (And.intro hv hv2)
    clear h hv hv2
    go_enter Tryz.func99, Tryz.ntmps99
    go_wp2_with fail
    go_loopw [8] (fun v8 wr => ∃ i q : Nat, v8 = .int .i64 i ∧ i ≤ n ∧ wr = w.drewN q ∧ ∀ k, k < i → le32 0 (f k) = true) (fun v8 _ => n - (intOf v8).toNat)
    case atStart => exact ⟨0, 0, rfl, Nat.zero_le _, rfl, fun k hk => by omega⟩
    case round =>
      obtain ⟨i, q, rfl, hi, rfl, hall⟩ := hrel
      have HA := Lib.hid hall
      clear hall
      by_cases hlt : i < n
      · have k1 := HZ.out i hlt
        have k3 : ∀ q, (w.drewN q).cell? ⟨b, off + i, none⟩ = some (.float .f32 (f i)) := fun _ => k1
        have KW := Lib.hid (fun W => solve1E W (f i))
        cases hb : le32 0 (f i)
        · rw [hb] at KW
          have HB := Lib.hid hb
          generalize hx : f i = x at *
          clear k1 hb
          go_wp2_with fail
          refine (KW.out _).mono ?_
          rintro e w1 ⟨rfl, rfl⟩
          go_wp2
          go_ret
          refine ⟨⟨i, rfl, fun _ => by omega, fun hf => ?_, by omega⟩, _, rfl⟩
          have := HV.out.2 hf i hlt
          rw [hx, HB.out] at this
          cases this
        · rw [hb] at KW
          have HB := Lib.hid hb
          generalize hx : f i = x at *
          have HX := Lib.hid hx
          clear k1 hb hx
          go_wp2_with fail
          refine (KW.out _).mono ?_
          rintro e w1 ⟨rfl, rfl⟩
          go_wp2
          go_roundw
          case rel => exact ⟨i + 1, _, by go_num, by omega, rfl, fun k hk => by
            by_cases hki : k < i
            · exact HA.out k hki
            · have : k = i := by omega
              subst this; rw [HX.out]; exact HB.out⟩
          case measure => simp [intOf]; omega
      · have : i = n := by omega
        subst this
        go_wp2
        go_ret
        refine ⟨⟨-1, rfl, fun ht => ?_, fun _ => rfl, by omega⟩, _, rfl⟩
        obtain ⟨k, hk, hb⟩ := HV.out.1 ht
        rw [HA.out k hk] at hb
        cases hb
  have K := Lib.hid K
  clear h hv hv2
  go_enter Tryz.func77, Tryz.ntmps77
  go_wp2_with fail
  refine K.out.mono ?_
  rintro e w1 ⟨⟨z, rfl, h1, h2, h3⟩, m, rfl⟩
  cases v
  · obtain rfl := h2 rfl
    clear h1 h2 h3
    go_wp2
    go_ret
    exact ⟨rfl, m, rfl⟩
  · have hz := h1 rfl
    clear h1 h2
    go_wp2
    go_ret
    exact ⟨rfl, m, rfl⟩

theorem own_snocW {w2 : World} {B gg cap n v : Nat} {F : Nat → Nat} (hown : w2.ownsRow B 25 1 (.slice (some ⟨gg, 0, none⟩) (n + 1) cap) (n + 1) ((tab n F).map (Value.float .f32) ++ [.float .f32 v])) (hv : F n = v) (hlt : v < 4294967296) (hF : ∀ i, i < n → F i < 4294967296) :
    OwnF w2 B (.slice (some ⟨gg, 0, none⟩) (n + 1) cap) (tab (n + 1) F) := by
  subst hv
  rw [tab_succ]
  refine ⟨by simpa [tab_length] using hown, fun b hb => ?_⟩
  rcases List.mem_append.1 hb with h | h
  · obtain ⟨i, hi, rfl⟩ := List.mem_map.1 h
    exact hF i (List.mem_range.1 hi)
  · simp at h; subst h; exact hlt
theorem ownF_startW (W : World) (F : Nat → Nat) : OwnF (W.alloc (.cells #[] 25)) W.heap.size (.slice (some ⟨W.heap.size, 0, none⟩) 0 0) (tab 0 F) :=
  ⟨⟨rfl, .inr ⟨W.heap.size, 0, #[], rfl, Nat.le_refl _, heap_alloc_new W _, Nat.le_refl _, by unfold maxLen; omega, rfl, rfl⟩⟩, by simp [tab]⟩
theorem tab_cellW {W : World} {g n c : Nat} {F : Nat → Nat} (h : SlF W (.slice (some ⟨g, 0, none⟩) n c) (tab n F)) {i : Nat} (hi : i < n) : W.cell? ⟨g, i, none⟩ = some (.float .f32 (F i)) := by
  have := (h.at i (by rw [tab_length]; exact hi)).1
  rw [Nat.zero_add, tab_getD hi] at this
  exact this

end Go.Proofs.YtabbjilgpfnacaaGreat
