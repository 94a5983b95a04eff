/- Slices of bytes of one's own; their strings; bytesOf. -/
import Derived.Test.YtkifhajkmgeafaaExt
import Derived.Test.YtkifhajkmgeafaaMem
import Derived.Test.YtkifhajkmgeafaaSrc
import Derived.Laws.IdiomStrings
import Derived.Laws.BytesArg
import Derived.Deep.AppendLies
namespace Go.Proofs.Ytkifhajkmgeafaa
open Go.RowKit
set_option maxRecDepth 100000
set_option linter.unusedVariables false
set_option linter.unusedSimpArgs false

theorem info_u8 : (Try.prog.info? 5).map (fun i => (i.zero, i.size, i.bytes)) = some (some (.int .u8 0), 1, 1) := by kernel_rfl
def uCells (l : List UInt8) : List Value := l.map fun b => Value.int .u8 (b.toNat : Int)
/-- A slice of bytes of the call's own. -/
def OwnU (w : World) (B : Nat) (v : Value) (l : List UInt8) : Prop := w.ownsRow B 5 1 v l.length (uCells l)
theorem OwnU.grown {w w' : World} {B : Nat} {v : Value} {l : List UInt8} {r : Option Nat} (h : OwnU w B v l) (hg : w.grownBy w' r) (hne : v.ownBlock = none ∨ v.ownBlock ≠ r) : OwnU w' B v l := World.ownsRow.kept h hg hne
theorem OwnU.below {w w' : World} {B : Nat} {v : Value} {l : List UInt8} (h : OwnU w B v l) (hb : Below w.heap.size w w') : OwnU w' B v l := h.grown (grown_below hb none) (by cases v.ownBlock <;> simp)
theorem OwnU.lt {w : World} {B : Nat} {v : Value} {l : List UInt8} (h : OwnU w B v l) {k : Nat} (hk : v.ownBlock = some k) : B ≤ k ∧ k < w.heap.size := World.ownsRow.lt h k hk
theorem OwnU.start (w : World) (B : Nat) (hB : B ≤ w.heap.size) : OwnU (w.alloc (.cells #[] 5)) B (.slice (some ⟨w.heap.size, 0, none⟩) 0 0) [] :=
  ⟨rfl, .inr ⟨w.heap.size, 0, #[], rfl, hB, heap_alloc_new w _, Nat.le_refl _, by unfold maxLen; omega, rfl, rfl⟩⟩
/-- The string of a slice's bytes. -/
theorem OwnU.str {w : World} {B : Nat} {v : Value} {l : List UInt8} (h : OwnU w B v l) : (convert 22 9 v).run Try.prog w = .ok (.string ⟨l.toArray⟩) w := by
  rcases h.2 with ⟨rfl, h0⟩ | ⟨g, cap, cur, rfl, hg, hh, hn, hm, hs, ht⟩
  · have : l = [] := List.length_eq_zero_iff.1 h0
    subst this
    exact run_convert_bytes_nil (P := Try.prog) w 22 5 (by rfl) (by rfl) 0 0 9 (by rfl)
  · refine run_convert_bytes_back w 22 9 5 ⟨g, 0, none⟩ cap l (by rfl) (by rfl) (by rfl) fun j hj => ?_
    exact World.ownsRow.cells (g := g) h rfl j _ (by unfold uCells; rw [List.getElem?_map, List.getElem?_eq_getElem hj]; rfl)

/-- The bytes of a number, the least one first. -/
def leB (n : Nat) : Nat → List UInt8
  | 0 => []
  | i + 1 => leB n i ++ [UInt8.ofNat (n / 256 ^ i % 256)]
theorem leB_len (n : Nat) : ∀ i, (leB n i).length = i := by
  intro i
  induction i with
  | zero => rfl
  | succ i ih => unfold leB; rw [List.length_append, ih]; rfl

set_option maxHeartbeats 1000000 in
theorem bytesOf_any (w : World) (n m : Nat) (hn : n < 4294967296) (hm : m ≤ 8) :
    Calls Try.prog 35 #[.int .i64 n, .int .i64 m] w fun e w' => e = .returned (.string ⟨(leB n m).toArray⟩) ∧ Below w.heap.size w w' := by
  obtain ⟨i0, hi0, hz0, hz1, hz2⟩ := info_parts info_u8
  have HS := Lib.hid (OwnU.start w w.heap.size (Nat.le_refl _))
  have hb0 : Below w.heap.size w (w.alloc (.cells #[] 5)) := (Below.refl _ _).alloc (Nat.le_refl _) _
  have HB := Lib.hid hb0
  clear hb0
  go_enter Try.func35, Try.ntmps35
  go_wp2_with fail
  go_loopw [0, 5, 8] (fun v0 v5 v8 wr => ∃ (i : Nat) (v : Value), v8 = .int .i64 i ∧ i ≤ m ∧ v0 = .int .i64 ((n / 256 ^ i : Nat) : Int) ∧ v = v5 ∧ OwnU wr w.heap.size v (leB n i) ∧ Below w.heap.size w wr) (fun _ _ v8 _ => m - (intOf v8).toNat)
  case atStart => exact ⟨0, _, rfl, Nat.zero_le _, by rw [Nat.pow_zero, Nat.div_one], rfl, HS.out, HB.out⟩
  case round =>
    clear HS HB
    obtain ⟨i, v, rfl, hi, rfl, rfl, hown, hbel⟩ := hrel
    have HBE := Lib.hid hbel
    have HO := Lib.hid hown
    have hli := leB_len n i
    by_cases hlt : i < m
    · have hiI : (i : Int) < (m : Int) := by omega
      have own1 : wr.ownsRow w.heap.size 5 1 v i (uCells (leB n i)) := by
        have := hown
        unfold OwnU at this
        rwa [hli] at this
      obtain ⟨q, hq⟩ : ∃ q, q = n / 256 ^ i := ⟨_, rfl⟩
      have hql : q < 4294967296 := by rw [hq]; exact Nat.lt_of_le_of_lt (Nat.div_le_self _ _) hn
      have hst : leB n (i + 1) = leB n i ++ [UInt8.ofNat (q % 256)] := by rw [hq]; rfl
      have hnx : n / 256 ^ (i + 1) = q / 256 := by rw [Nat.pow_succ, ← Nat.div_div_eq_div_mul, ← hq]
      rw [← hq]
      have HST := Lib.hid hst
      have HNX := Lib.hid hnx
      have wb : IntKind.u8.wrap (q : Int) = ((q % 256 : Nat) : Int) := by simp [IntKind.wrap, IntKind.bits, IntKind.signed]
      have hbn := hbel.size
      clear hown hbel hq hst hnx
      go_wp2_with (at_builtin; refine wpList_append_lies _ (by rfl) _ _ _ (by rfl) w.heap.size 5 i0 _ 1 1 Try.underlying22 hi0 hz0 hz1 hz2 rfl (by omega) v i _ (by rfl) (World.ownsRow.alloc own1 _) ⟨wr.heap.size, 0, none⟩ 1 1 [.int .u8 ((q % 256 : Nat) : Int)] (by rfl) (by rfl) (cell_one_new _ _ _) (by simp [Value.oneCell']) (by omega) (by unfold maxLen; omega) (by omega) (by simp; omega) (wr.heap.size + 1) (by simp) ?_; intro g cap w2 hown2 hgrow hat hlt2)
      go_roundw
      case rel =>
        refine ⟨i + 1, _, by go_num, by omega, by rw [HNX.out]; go_num, rfl, ?_, ?_⟩
        · rw [HST.out]
          unfold OwnU
          rw [List.length_append, hli]
          have e : uCells (leB n i ++ [UInt8.ofNat (q % 256)]) = uCells (leB n i) ++ [Value.int .u8 ((q % 256 : Nat) : Int)] := by
            unfold uCells
            rw [List.map_append, List.map_cons, List.map_nil, UInt8.toNat_ofNat', Nat.mod_eq_of_lt (show q % 256 < 2 ^ 8 by omega)]
          rw [e]
          exact hown2
        · exact (HBE.out.alloc HBE.out.size _).grown hgrow (by have := HBE.out.size; simp; omega) (fun k hk => (HO.out.lt hk).1)
      case measure => simp [intOf]; omega
    · obtain rfl : m = i := by omega
      have hstr := hown.str
      clear hown hbel
      go_wp2_with fail
      go_ret
      exact ⟨rfl, HBE.out⟩

end Go.Proofs.Ytkifhajkmgeafaa
