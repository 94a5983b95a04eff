/- slices.Backward over a slice of slices; rows that a call owns. -/
import Derived.Test.YtfhlpabbacopjaaJd
import Derived.RangeFuncNested
import Derived.RangeFuncBound
import Derived.RangeFuncCalls
import Derived.RangeFuncLeaves
import Derived.RangeFuncBox
import Derived.Shelf.Abstract
import Derived.Shelf.RegionOpen
import Derived.WalkKit
import Derived.OwnWalkIn
import Derived.TacticsInMore
import Derived.LoopNIn
import Derived.LoopIn
import Derived.Maps.AppendAt
namespace Go.Proofs.Ytfhlpabbacopjaa
open Go.RowKit Go.Shelf
set_option maxRecDepth 100000
set_option linter.unusedVariables false
set_option linter.unusedSimpArgs false

/-- A row of one-cell elements of the call's own. -/
def OwnT (t : TypeId) (w : World) (B : Nat) (v : Value) (ks : List Value) : Prop := w.ownsRow B t 1 v ks.length ks
theorem OwnT.cellAt {t : TypeId} {w : World} {B g n cap : Nat} {ks : List Value} (h : OwnT t w B (.slice (some ⟨g, 0, none⟩) n cap) ks) (i : Nat) {u : Value} (hu : ks[i]? = some u) : w.cell? ⟨g, i, none⟩ = some u := by
  have := World.ownsRow.cells (g := g) h rfl i u hu
  by_cases h0 : i = 0
  · subst h0; simpa [Addr.add] using this
  · simpa [Addr.add, h0] using this
theorem OwnT.len {t : TypeId} {w : World} {B g n cap : Nat} {ks : List Value} (h : OwnT t w B (.slice (some ⟨g, 0, none⟩) n cap) ks) : ks.length = n ∧ n ≤ cap ∧ cap ≤ maxLen := by
  rcases h.2 with ⟨h1, _⟩ | ⟨g', cap', cur, h1, h2, h3, h4, h5, h6⟩
  · cases h1
  · simp only [Value.slice.injEq] at h1
    omega
theorem OwnT.grown {t : TypeId} {w w' : World} {B : Nat} {v : Value} {ks : List Value} {r : Option Nat} (h : OwnT t w B v ks) (hg : w.grownBy w' r) (hne : v.ownBlock = none ∨ v.ownBlock ≠ r) : OwnT t w' B v ks := World.ownsRow.kept h hg hne
theorem OwnT.below {t : TypeId} {w w' : World} {B : Nat} {v : Value} {ks : List Value} (h : OwnT t w B v ks) (hb : Below w.heap.size w w') : OwnT t w' B v ks := h.grown (grown_below hb none) (by cases v.ownBlock <;> simp)
theorem OwnT.lt {t : TypeId} {w : World} {B : Nat} {v : Value} {ks : List Value} (h : OwnT t w B v ks) {k : Nat} (hk : v.ownBlock = some k) : B ≤ k ∧ k < w.heap.size := World.ownsRow.lt h k hk
theorem OwnT.mono {t : TypeId} {w : World} {B B' : Nat} {v : Value} {ks : List Value} (h : OwnT t w B v ks) (hB : B' ≤ B) : OwnT t w B' v ks := by
  obtain ⟨h1, h2⟩ := h
  refine ⟨h1, ?_⟩
  rcases h2 with h | ⟨g, cap, cur, h4, h5, h6⟩
  · exact .inl h
  · exact .inr ⟨g, cap, cur, h4, by omega, h6⟩
theorem OwnT.start (t : TypeId) (w : World) : OwnT t (w.alloc (.cells #[] t)) w.heap.size (.slice (some ⟨w.heap.size, 0, none⟩) 0 0) [] :=
  ⟨rfl, .inr ⟨w.heap.size, 0, #[], rfl, Nat.le_refl _, heap_alloc_new w _, Nat.le_refl _, by unfold maxLen; omega, rfl, rfl⟩⟩

theorem info_int : (Try.prog.info? 3).map (fun i => (i.zero, i.size, i.bytes)) = some (some (.int .i64 0), 1, 8) := by kernel_rfl

theorem info_ints : (Try.prog.info? 120).map (fun i => (i.zero, i.size, i.bytes)) = some (some (.slice none 0 0), 1, 24) := by kernel_rfl

attribute [local go_sem] Oper.semAt_some

/-- The places of a row, from the last one down. -/
def dn (len k : Nat) : List (Fin len) := (List.range k).filterMap fun j => if h : len - 1 - j < len then some ⟨len - 1 - j, h⟩ else none
theorem dn_succ {len k : Nat} (h : k < len) : dn len (k + 1) = dn len k ++ [⟨len - 1 - k, by omega⟩] := by
  unfold dn
  rw [List.range_succ, List.filterMap_append]
  simp [show len - 1 - k < len by omega]
theorem dn_length {len : Nat} : ∀ k, k ≤ len → (dn len k).length = k := by
  intro k
  induction k with
  | zero => intro _; rfl
  | succ k ih => intro h; rw [dn_succ (by omega), List.length_append, ih (by omega)]; rfl

/-- What a round keeps: the blocks below a bound, and one block more. -/
def KpB (n₀ Bs : Nat) (W W' : World) : Prop := Below n₀ W W' ∧ W'.heap[Bs]? = W.heap[Bs]?
theorem KpB.refl (n₀ Bs : Nat) (W : World) : KpB n₀ Bs W W := ⟨Below.refl _ _, rfl⟩
theorem KpB.trans {n₀ Bs : Nat} {A B C : World} (h : KpB n₀ Bs A B) (k : KpB n₀ Bs B C) : KpB n₀ Bs A C := ⟨h.1.trans k.1, k.2.trans h.2⟩
theorem KpB.put {n₀ Bs : Nat} {w : World} (hn : n₀ ≤ w.heap.size) (hb : Bs < w.heap.size) : ∀ (W : World) (l : Nat) (o o' : Obj), w.heap.size ≤ l → W.heap[l]? = some o → o.isCells = false → o.isWalk = false → KpB n₀ Bs W (W.putObj l o') := fun W l o o' hl ho hc hw =>
  ⟨belowK_b (w := w) hn W l o o' hl ho hc hw, World.putObj_heap_other (by omega)⟩

set_option maxHeartbeats 2000000 in
theorem back1_in (F : Fence) (n : Nat) (hF : F.fn 111) (hro : F.round = none) (hn : 1 ≤ n) (l Bs n₀ b len cap dp : Nat) (gs cs : Nat → Nat) (hreach : len ≤ 1000) (hb : b < n₀) (J Jx : List (Fin len) → World → Prop)
    (hY : ∀ pre x W, J pre W → pre.length < len → YieldAt F (n - 1) Try.prog l #[.int .i64 (x.1 : Nat), .slice (some ⟨gs x.1, 0, none⟩) dp (cs x.1)] W fun e W' =>
      (e = .returned (.bool true) ∧ J (pre ++ [x]) W' ∧ KpB n₀ Bs W W') ∨ (e = .returned (.bool false) ∧ Jx (pre ++ [x]) W'))
    (W : World) (hBs : W.cell? ⟨Bs, 0, none⟩ = some (.slice (some ⟨b, 0, none⟩) len cap)) (hc : ∀ j, j < len → W.cell? ⟨b, j, none⟩ = some (.slice (some ⟨gs j, 0, none⟩) dp (cs j))) (h0 : J [] W) :
    CallsIn F n Try.prog 111 #[.func (.yield l) #[] #[], .pointer (some ⟨Bs, 0, none⟩)] W fun e W' => (∃ v, e = .returned v) ∧
      ((∃ ys, ys = dn len len ∧ J ys W') ∨ (∃ pre, (∃ k, k ≤ len ∧ pre = dn len k) ∧ Jx pre W')) := by
  refine callsIn_of_wp Try.func111 rfl hF ?_ hro
  simp only [Try.ntmps111, List.size_toArray, List.length_cons, List.length_nil, Nat.reduceAdd, Nat.reduceSub, Array.replicate_succ, Array.replicate_zero, List.push_toArray, List.append_toArray, List.nil_append, List.cons_append]
  have hL : (len : Int) ≤ 1000 := by omega
  gi_wp2
  gi_loopw [3] (fun i wr => ∃ k : Nat, k ≤ len ∧ i = .int .i64 ((len : Int) - 1 - k) ∧ J (dn len k) wr ∧ KpB n₀ Bs W wr)
    (fun i _ => ((intOf i) + 1).toNat)
  case atStart => exact ⟨0, Nat.zero_le _, by simp, h0, KpB.refl _ _ _⟩
  case round =>
    obtain ⟨k, hk, rfl, hJs, hnx⟩ := hrel
    have hcx : k < len → wr.cell? ⟨b, len - 1 - k, none⟩ = some (.slice (some ⟨gs (len - 1 - k), 0, none⟩) dp (cs (len - 1 - k))) := fun h => (hnx.1.cell (p := ⟨b, len - 1 - k, none⟩) hb).trans (hc _ (by omega))
    have hbx : wr.cell? ⟨Bs, 0, none⟩ = some (.slice (some ⟨b, 0, none⟩) len cap) := (World.cell?_of_block hnx.2).trans hBs
    by_cases hlt : k < len
    · obtain ⟨fn, tmps, assign, body, hy, hR⟩ := hY _ ⟨len - 1 - k, by omega⟩ wr hJs (by rw [dn_length k hk]; exact hlt)
      dsimp only at hy
      have hcx' := hcx hlt
      have e1 : (len : Int) - 1 - k = ((len - 1 - k : Nat) : Int) := by omega
      rw [← dn_succ hlt] at hR
      generalize hm : len - 1 - k = m at *
      rw [e1]
      have hm1 : (m : Int) < len := by omega
      have hm2 : (m : Int) - 1 = (len : Int) - 1 - ((k + 1 : Nat) : Int) := by omega
      gi_wp2
      refine hR.mono ?_
      rintro e W3 (⟨rfl, hJ3, hk3⟩ | ⟨rfl, hJx3⟩)
      · gi_wp2
        go_roundw
        case rel => exact ⟨k + 1, by omega, by congr 1, hJ3, hnx.trans hk3⟩
        case measure => simp [intOf]; omega
      · gi_wp2
        refine bodyPost_ret (results_none rfl _ _ _) rfl ?_
        exact ⟨⟨_, rfl⟩, .inr ⟨_, ⟨k + 1, by omega, rfl⟩, hJx3⟩⟩
    · obtain rfl : k = len := by omega
      gi_wp2
      go_end0
      exact ⟨⟨_, rfl⟩, .inl ⟨_, rfl, hJs⟩⟩

theorem back_seq (F : Fence) (n : Nat) (hF : F.fn 111) (hro : F.round = none) (hn : 1 ≤ n) (Bs n₀ b len cap dp : Nat) (gs cs : Nat → Nat) (hreach : len ≤ 1000) (hb : b < n₀) (w : World) (hn₀ : n₀ ≤ w.heap.size) (hBl : Bs < w.heap.size)
    (hBs : w.cell? ⟨Bs, 0, none⟩ = some (.slice (some ⟨b, 0, none⟩) len cap)) (hc : ∀ j, j < len → w.cell? ⟨b, j, none⟩ = some (.slice (some ⟨gs j, 0, none⟩) dp (cs j))) :
    SeqStopsK F n Try.prog 111 #[.pointer (some ⟨Bs, 0, none⟩)] (fun x : Fin len => #[.int .i64 (x.1 : Nat), .slice (some ⟨gs x.1, 0, none⟩) dp (cs x.1)]) (KpB n₀ Bs) (fun ys => ys = dn len len)
      (fun pre => ∃ k, k ≤ len ∧ pre = dn len k) len w := fun l J Jx W hW _ _ hY h0 =>
  back1_in F n hF hro hn l Bs n₀ b len cap dp gs cs hreach hb J Jx hY W ((hW.cell (p := ⟨Bs, 0, none⟩) hBl).trans hBs) (fun j hj => (hW.cell (p := ⟨b, j, none⟩) (by show b < _; omega)).trans (hc j hj)) h0

theorem backward_any (a : Option Addr) (len cap : Nat) (w : World) :
    Calls Try.prog 95 #[.slice a len cap] w fun e w' => e = .returned (.func (.func 111) #[] #[.pointer (some ⟨w.heap.size, 0, none⟩)]) ∧ w' = w.alloc (.cells #[.slice a len cap] 119) := by
  go_enter Try.func95, Try.ntmps95
  go_wp2
  go_ret
  exact ⟨rfl, rfl⟩

end Go.Proofs.Ytfhlpabbacopjaa
