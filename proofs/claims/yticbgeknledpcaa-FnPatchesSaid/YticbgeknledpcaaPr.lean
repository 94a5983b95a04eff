/- slices.Repeat of one number; math/bits.Mul of small numbers. -/
import Derived.Test.YticbgeknledpcaaOi
import Derived.Laws.CopyRow
import Derived.Laws.CopyOwn
import Derived.Deep.RegionLaw
import Derived.Laws.OwnMore
namespace Go.Proofs.Yticbgeknledpcaa
open Go.RowKit
set_option maxRecDepth 100000
set_option linter.unusedVariables false
set_option linter.unusedSimpArgs false

theorem mask_small (n : Nat) (hn : n < 1000) : bits .and .u64 (n : Int) 4294967295 = (n : Int) := by
  show IntKind.u64.wrap ((BitVec.ofInt 64 ((n : Nat) : Int) &&& BitVec.ofInt 64 4294967295).toNat : Int) = _
  have e1 : (BitVec.ofInt 64 4294967295 : BitVec 64) = BitVec.ofNat 64 4294967295 := by decide
  have e2 : n &&& 4294967295 = n % 4294967296 := Nat.and_two_pow_sub_one_eq_mod n 32
  rw [e1, BitVec.ofInt_natCast, BitVec.toNat_and, BitVec.toNat_ofNat, BitVec.toNat_ofNat, Nat.mod_eq_of_lt (show n < 2 ^ 64 by omega), show 4294967295 % 2 ^ 64 = 4294967295 from rfl, e2, IntKind.wrap_u64]
  omega
theorem mul64_one (n : Nat) (hn : n < 1000) (w : World) : Calls Try.prog 103 #[.int .u64 1, .int .u64 n] w fun e w' => e = .returned (.tuple #[.int .u64 0, .int .u64 n]) ∧ w' = w := by
  have m1 := mask_small n hn
  have m0 : bits .and .u64 (1 : Int) 4294967295 = 1 := mask_small 1 (by omega)
  have mz : bits .and .u64 (0 : Int) 4294967295 = 0 := mask_small 0 (by omega)
  have wn : IntKind.u64.wrap (n : Int) = (n : Int) := by rw [IntKind.wrap_u64]; omega
  have w0 : IntKind.u64.wrap (0 : Int) = 0 := by rw [IntKind.wrap_u64]; rfl
  have d0 : (n : Int) / 4294967296 = 0 := by omega
  go_enter Try.func103, Try.ntmps103
  go_wp2
  go_ret2
  exact ⟨rfl, rfl⟩

theorem mul_one (n : Nat) (hn : n < 1000) (w : World) : Calls Try.prog 89 #[.int .u64 1, .int .u64 n] w fun e w' => e = .returned (.tuple #[.int .u64 0, .int .u64 n]) ∧ w' = w := by
  have K := Lib.hid (mul64_one n hn w)
  go_enter Try.func89, Try.ntmps89
  go_wp2_with fail
  refine K.out.mono ?_
  rintro e w' ⟨rfl, rfl⟩
  go_wp2
  go_ret2
  exact ⟨rfl, rfl⟩

theorem below_of_grownR {w wr : World} (h : w.grownBy wr none) : Below w.heap.size w wr := ⟨h.os, h.tape, h.output, h.size, fun k hk => h.block k hk (by simp)⟩
theorem makeR (w : World) (n B : Nat) (hB : B ≤ w.heap.size) (hn : n ≤ 1000) :
    ∃ w', (Instr.makeSlice 39 (.int .i64 (n : Int)) (.int .i64 (n : Int))).run Try.prog w = .ok (.slice (some ⟨w.heap.size, 0, none⟩) n n) w' ∧ OwnI w' B (.slice (some ⟨w.heap.size, 0, none⟩) n n) (List.replicate n 0) ∧ Below w.heap.size w w' ∧ w.heap.size < w'.heap.size := by
  obtain ⟨i0, hi0, hz0, hz1, hz2⟩ := info_parts info_i64
  obtain ⟨w', h1, h2, h3⟩ := run_makeSlice_full (P := Try.prog) (w := w) B 39 2 i0 (.int .i64 0) 1 (by rfl) hi0 hz0 hz1 .i64 .i64 n (by omega) (by rw [hz2]; omega) (by unfold maxLen; omega) hB
  have h4 : (madeCells (Value.cells (.int .i64 0)) (n * 1)).toList = (List.replicate n (0 : Int)).map (Value.int .i64) := by
    rw [Nat.mul_one, List.map_replicate]; exact toList_madeCells_one _ _
  refine ⟨w', h1, ?_, below_of_grownR h3, ?_⟩
  · unfold OwnI; rw [List.length_replicate, ← h4]; exact h2
  · exact (World.ownsRow.lt h2 w.heap.size rfl).2
theorem own_full {w : World} {B g N : Nat} {ks : List Int} (h : OwnI w B (.slice (some ⟨g, 0, none⟩) N N) ks) : w.heap[g]? = some (.cells (ks.map (Value.int .i64)).toArray 2 (0, 0)) ∧ B ≤ g := by
  have hl := h.len.1
  obtain ⟨h1, h2⟩ := h
  rcases h2 with ⟨h, _⟩ | ⟨g', cap', cur, e1, e2, e3, e4, e5, e6, e7⟩
  · cases h
  · simp only [Value.slice.injEq, Option.some.injEq, Addr.mk.injEq, and_true] at e1
    obtain ⟨rfl, e8, e9⟩ := e1
    refine ⟨?_, e2⟩
    have hs : cur.toList = ks.map (Value.int .i64) := by
      rw [← e7, List.take_of_length_le]
      simp
      omega
    rw [e3, ← hs]
theorem own_of_full {w : World} {B g N : Nat} {ks : List Int} (h : w.heap[g]? = some (.cells (ks.map (Value.int .i64)).toArray 2 (0, 0))) (hl : ks.length = N) (hB : B ≤ g) (hN : N ≤ 1000) : OwnI w B (.slice (some ⟨g, 0, none⟩) N N) ks := by
  subst hl
  exact ⟨by simp, .inr ⟨g, ks.length, _, rfl, hB, h, Nat.le_refl _, by unfold maxLen; omega, by simp, by simp [List.take_of_length_le]⟩⟩
def rep (n N : Nat) : List Value := List.replicate n (Value.int .i64 (-1)) ++ List.replicate (N - n) (Value.int .i64 0)
set_option maxHeartbeats 2000000 in
theorem repeat_any (w : World) (xb c N : Nat) (hx : w.cell? ⟨xb, 0, none⟩ = some (.int .i64 (-1))) (hxl : xb < w.heap.size) (hN1 : 1 ≤ N) (hN : N < 1000) :
    Calls Try.prog 73 #[.slice (some ⟨xb, 0, none⟩) 1 c, .int .i64 N] w fun e w' => ∃ g, e = .returned (.slice (some ⟨g, 0, none⟩) N N) ∧ OwnI w' w.heap.size (.slice (some ⟨g, 0, none⟩) N N) (List.replicate N (-1)) ∧ Below w.heap.size w w' := by
  have K := Lib.hid (mul_one N hN w)
  have hNI : (N : Int) < 1000 := by omega
  go_enter Try.func73, Try.ntmps73
  go_wp2_with fail
  refine K.out.mono ?_
  rintro e w' ⟨rfl, rfl⟩
  clear K
  obtain ⟨w1, hmk, hown, hb1, hlt1⟩ := makeR w' N w'.heap.size (Nat.le_refl _) (by omega)
  obtain ⟨hheap, hBg⟩ := own_full hown
  have hx1 := (hb1.cell (p := ⟨xb, 0, none⟩) hxl).trans hx
  have e0 : ((List.replicate N (0 : Int)).map (Value.int .i64)) = rep 0 N := by simp [rep]
  rw [e0] at hheap
  obtain ⟨g, hg⟩ : ∃ g, g = w'.heap.size := ⟨_, rfl⟩
  rw [← hg] at hheap hmk hBg hlt1
  have HG := Lib.hid hg
  have HB1 := Lib.hid hb1
  have hsrc : ∀ j v, [Value.int IntKind.i64 (-1)][j]? = some v → w1.cell? ((⟨xb, 0, none⟩ : Addr).add j) = some v := fun j v hj => by
    match j, hj with
    | 0, hj => simp at hj; subst hj; simpa [Addr.add] using hx1
    | j + 1, hj => simp at hj
  have HSRC := Lib.hid hsrc
  have hz8 : (N : Int) ≤ 9223372036854775807 := by omega
  have hmin : [Value.int IntKind.i64 (-1)].length = Nat.min 1 N := (Nat.min_eq_left hN1).symm
  have hfit0 : 0 + [Value.int IntKind.i64 (-1)].length ≤ (rep 0 N).length := by simp [rep]; omega
  clear hown hb1 hx1 e0 hg hx hsrc
  obtain ⟨w2, hw2⟩ : ∃ w2, w2 = w1.setRow g ((rep 0 N).take 0 ++ [Value.int .i64 (-1)] ++ (rep 0 N).drop (0 + [Value.int IntKind.i64 (-1)].length)).toArray := ⟨_, rfl⟩
  have hrun := run_copy_row (P := Try.prog) w1 39 39 3 2 g 0 N N ⟨xb, 0, none⟩ 1 c (rep 0 N).toArray 2 [.int .i64 (-1)] (by rfl) (by rfl) hheap hmin HSRC.out (by simpa using hfit0) (by simp [Value.oneCell'])
  rw [← hw2] at hrun
  have hh2 : w2.heap[g]? = some (.cells (rep 1 N).toArray 2 (0, 0)) := by
    rw [hw2, setRow_heap w1 g _ _ 2 _ hheap]
    congr 3
    rw [show N = (N - 1) + 1 by omega]
    simp [rep, List.replicate_succ]
  have hb2 : Below w'.heap.size w' w2 := by rw [hw2]; exact below_setRow HB1.out (by rw [HG.out]; exact Nat.le_refl _) _
  have HH2 := Lib.hid (And.intro hh2 hb2)
  clear hw2 hh2 hb2 hheap hmin hfit0
  go_wp2_with fail
  go_loopw [8] (fun v8 wr => ∃ n : Nat, v8 = .int .i64 n ∧ 1 ≤ n ∧ n ≤ N ∧ wr.heap[g]? = some (.cells (rep n N).toArray 2 (0, 0)) ∧ Below w'.heap.size w' wr) (fun v8 _ => N - (intOf v8).toNat)
  case atStart => exact ⟨1, rfl, Nat.le_refl _, hN1, HH2.out.1, HH2.out.2⟩
  case round =>
    clear HH2 hrun
    obtain ⟨n, rfl, hn1, hn2, hh, hb⟩ := hrel
    have HHB := Lib.hid (And.intro hh hb)
    by_cases hlt : n < N
    · obtain ⟨m, hm⟩ : ∃ m, m = Nat.min n (N - n) := ⟨_, rfl⟩
      have hm1 : m ≤ n := by rw [hm]; exact Nat.min_le_left _ _
      have hm2 : m ≤ N - n := by rw [hm]; exact Nat.min_le_right _ _
      have hm0 : 0 < m := by
        rw [hm]; exact Nat.lt_min.2 ⟨by omega, by omega⟩
      have hcell : ∀ j, j < n → (rep n N)[j]? = some (Value.int .i64 (-1)) := fun j hj => by
        unfold rep
        rw [List.getElem?_append_left (by simpa using hj), List.getElem?_replicate, if_pos hj]
      have hsrc : ∀ j v, (List.replicate m (Value.int IntKind.i64 (-1)))[j]? = some v → wr.drew.cell? ((⟨g, 0, none⟩ : Addr).add j) = some v := fun j v hj => by
        have hjl : j < m := by
          rcases Nat.lt_or_ge j m with h | h
          · exact h
          · rw [List.getElem?_eq_none (by simpa using h)] at hj; cases hj
        rw [List.getElem?_replicate, if_pos hjl] at hj
        cases hj
        have e : ((⟨g, 0, none⟩ : Addr).add j) = ⟨g, j, none⟩ := by unfold Addr.add; split <;> simp_all
        rw [e]
        have : wr.cell? ⟨g, j, none⟩ = some (Value.int .i64 (-1)) := by
          simp only [World.cell?, hh]
          simpa using hcell j (by omega)
        exact this
      obtain ⟨w3, hw3⟩ : ∃ w3, w3 = wr.drew.setRow g ((rep n N).take n ++ List.replicate m (Value.int .i64 (-1)) ++ (rep n N).drop (n + (List.replicate m (Value.int IntKind.i64 (-1))).length)).toArray := ⟨_, rfl⟩
      have hrun := run_copy_row (P := Try.prog) wr.drew 39 39 3 2 g n (N - n) (N - n) ⟨g, 0, none⟩ n N (rep n N).toArray 2 (List.replicate m (Value.int .i64 (-1))) (by rfl) (by rfl) hh (by rw [List.length_replicate, hm]) hsrc (by simp [rep]; omega) (by simp [Value.oneCell'])
      rw [← hw3, List.length_replicate] at hrun
      have hh3 : w3.heap[g]? = some (.cells (rep (n + m) N).toArray 2 (0, 0)) := by
        rw [hw3, setRow_heap wr.drew g _ _ 2 _ hh]
        congr 3
        have e1 : (rep n N).take n = List.replicate n (Value.int .i64 (-1)) := by unfold rep; rw [List.take_left' (by simp)]
        have e2 : (rep n N).drop (n + (List.replicate m (Value.int IntKind.i64 (-1))).length) = List.replicate (N - (n + m)) (Value.int .i64 0) := by
          unfold rep
          rw [List.length_replicate, List.drop_append, List.length_replicate, List.drop_replicate, List.drop_replicate]
          rw [show n - (n + m) = 0 by omega, show n + m - n = m by omega, show N - n - m = N - (n + m) by omega]
          rfl
        rw [e1, e2]
        unfold rep
        rw [List.replicate_append_replicate]
      have hb3 : Below w'.heap.size w' w3 := by rw [hw3]; exact below_setRow (below_drewN hb 1) (by rw [HG.out]; exact Nat.le_refl _) _
      have HH3 := Lib.hid (And.intro hh3 hb3)
      have nI : (n : Int) < N := by omega
      have nm : ((n : Int) + (m : Int)) ≤ 1000 := by omega
      clear hw3 hh3 hb3 hsrc hcell hm hh hb
      go_wp2_with fail
      go_region
      all_goals
        go_wp2_with fail
        go_roundw
        case rel => exact ⟨n + m, by go_num, by omega, by omega, HH3.out.1, HH3.out.2⟩
        case measure => simp [intOf]; omega
    · obtain rfl : N = n := by omega
      clear hh hb
      go_wp2_with fail
      go_ret
      have e : rep N N = (List.replicate N (-1 : Int)).map (Value.int .i64) := by simp [rep]
      have hh := HHB.out.1
      rw [e] at hh
      exact ⟨g, rfl, own_of_full hh (by simp) (by rw [HG.out]; exact Nat.le_refl _) (by omega), HHB.out.2⟩

end Go.Proofs.Yticbgeknledpcaa
