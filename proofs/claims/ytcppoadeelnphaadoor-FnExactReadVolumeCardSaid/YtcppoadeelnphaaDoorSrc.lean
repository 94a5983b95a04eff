/- Contracts of the sources of choices: what is drawn lies in its range; nothing but the source's own block is written. -/
import Derived.Test.YtcppoadeelnphaaDoorNum
import Derived.Deep.QuietTactic
import Derived.BigQuiet
import Derived.OneCell
import Derived.Laws.AppendOwn
namespace Go.Proofs.YtcppoadeelnphaaDoor
open Go.RowKit
set_option maxRecDepth 100000
set_option linter.unusedVariables false

/-- The bytes that a slice leads to. -/
def BytesAt (w : World) (L : Nat) (a : Option Addr) (len : Nat) : Prop :=
  len ≤ 140737488355328 ∧ (len = 0 ∨ ∃ b off, a = some ⟨b, off, none⟩ ∧ b < L ∧ ∀ i, i < len → ∃ n, w.cell? ⟨b, off + i, none⟩ = some (.int .u8 n) ∧ 0 ≤ n ∧ n ≤ 255)

theorem src_cell {w : World} {sb : Nat} {x y z : Value} {T : TypeId} (h : w.heap[sb]? = some (.cells #[x, y, z] T (0, 0))) : w.cell? ⟨sb, 0, none⟩ = some x ∧ w.cell? ⟨sb, 1, none⟩ = some y ∧ w.cell? ⟨sb, 2, none⟩ = some z ∧ w.frozen? ⟨sb, 1, none⟩ = false ∧ w.frozen? ⟨sb, 2, none⟩ = false := by
  simp [World.cell?, World.frozen?, h]

theorem wrap_u64_range (x : Int) : 0 ≤ IntKind.u64.wrap x ∧ IntKind.u64.wrap x ≤ 18446744073709551615 := by rw [IntKind.wrap_u64]; omega

theorem last_byte (x : Int) (h0 : 0 ≤ x) (h1 : x ≤ 18446744073709551615) : 0 ≤ wrap64 (bits .and .u64 (x / 1099511627776) 255) ∧ wrap64 (bits .and .u64 (x / 1099511627776) 255) ≤ 255 := by
  rw [u64_and _ _ (by omega) (by omega) (by omega) (by omega)]
  have h : (x / 1099511627776).toNat &&& (255 : Int).toNat ≤ 255 := Nat.and_le_right
  generalize (x / 1099511627776).toNat &&& (255 : Int).toNat = z at *
  have e : wrap64 (z : Int) = z := by unfold wrap64; omega
  rw [e]; omega

theorem heap_set2 {w : World} {sb : Nat} {x y z y' z' : Value} {T : TypeId} (h : w.heap[sb]? = some (.cells #[x, y, z] T (0, 0))) (k k' : Nat) :
    ((((w.drewN k).setCell ⟨sb, 1, none⟩ y').setCell ⟨sb, 2, none⟩ z').drewN k').heap[sb]? = some (.cells #[x, y', z'] T (0, 0)) := by
  have hlt := lt_of_block h
  have h' : w.heap[sb] = .cells #[x, y, z] T (0, 0) := by simpa [Array.getElem?_eq_getElem hlt] using h
  have e : ((((w.drewN k).setCell ⟨sb, 1, none⟩ y').setCell ⟨sb, 2, none⟩ z').drewN k').heap = (((w.drewN k).setCell ⟨sb, 1, none⟩ y').setCell ⟨sb, 2, none⟩ z').heap := rfl
  rw [e]
  simp only [World.setCell]
  rw [Array.getElem?_eq_getElem (by simpa using hlt), Array.getElem_modify_self, Array.getElem_modify_self]
  simp only [World.heap_drewN, h']
  rfl

theorem grown_set2 (w : World) (sb : Nat) (y' z' : Value) (k k' : Nat) : w.grownBy ((((w.drewN k).setCell ⟨sb, 1, none⟩ y').setCell ⟨sb, 2, none⟩ z').drewN k') (some sb) := by
  refine ⟨rfl, rfl, rfl, by simp [World.setCell], fun i hi hne => ?_⟩
  have hne' : sb ≠ i := fun e => hne (by rw [e])
  have e : ((((w.drewN k).setCell ⟨sb, 1, none⟩ y').setCell ⟨sb, 2, none⟩ z').drewN k').heap = (((w.drewN k).setCell ⟨sb, 1, none⟩ y').setCell ⟨sb, 2, none⟩ z').heap := rfl
  rw [e]
  simp only [World.setCell, Array.getElem?_modify, if_neg hne', World.heap_drewN]

theorem BytesAt.grown {w w' : World} {L : Nat} {r : Option Nat} {a : Option Addr} {len : Nat} (h : BytesAt w L a len) (hg : w.grownBy w' r) (hr : ∀ k, r = some k → L ≤ k) : BytesAt w' L a len := by
  refine ⟨h.1, ?_⟩
  rcases h.2 with h0 | ⟨b, off, ha, hb, hc⟩
  · exact .inl h0
  · refine .inr ⟨b, off, ha, hb, fun i hi => ?_⟩
    obtain ⟨n, h1, h2⟩ := hc i hi
    exact ⟨n, hg.cell h1 (fun e => by have := hr b e.symm; omega), h2⟩

theorem grown_trans {a b c : World} {r : Option Nat} (h : a.grownBy b r) (k : b.grownBy c r) : a.grownBy c r :=
  ⟨k.os.trans h.os, k.tape.trans h.tape, k.output.trans h.output, Nat.le_trans h.size k.size, fun i hi hn => (k.block i (Nat.lt_of_lt_of_le hi h.size) hn).trans (h.block i hi hn)⟩

theorem grown_drewN (w : World) (n : Nat) (r : Option Nat) : w.grownBy (w.drewN n) r := ⟨rfl, rfl, rfl, Nat.le_refl _, fun _ _ _ => rfl⟩

theorem grown_refl (w : World) (r : Option Nat) : w.grownBy w r := ⟨rfl, rfl, rfl, Nat.le_refl _, fun _ _ _ => rfl⟩

theorem grown_below {w w' : World} (h : Below w.heap.size w w') (r : Option Nat) : w.grownBy w' r := ⟨h.os, h.tape, h.output, h.size, fun i hi _ => h.block i hi⟩

/-- A row of integers within bounds. -/
def IntsIn (w : World) (b off len : Nat) (lo hi : Int) : Prop := ∀ i, i < len → ∃ z, w.cell? ⟨b, off + i, none⟩ = some (.int .i64 z) ∧ lo ≤ z ∧ z ≤ hi

theorem floatOfInt_lt (n : Int) : floatOfInt .f32 n < 4294967296 := by have := floatOfInt_wf .f32 n; simpa [Lit.wf] using this

theorem intsIn_alloc (w : World) (l : List Int) (T : TypeId) (lo hi : Int) (h : ∀ z ∈ l, lo ≤ z ∧ z ≤ hi) : IntsIn (w.alloc (.cells (l.map (Value.int .i64)).toArray T)) w.heap.size 0 l.length lo hi := by
  intro i hi
  refine ⟨l[i], ?_, h _ (List.getElem_mem hi)⟩
  unfold World.cell?
  rw [heap_alloc_new]
  simp [hi]

theorem ten_in : ∀ z ∈ [(0 : Int), 2147483648, 2139095040, 4286578688, 2143289344, 1, 2139095039, 8388608, 8388607, 2147483649], 0 ≤ z ∧ z ≤ 4294967295 := by decide

theorem four_in : ∀ z ∈ [(8388608 : Int), 2130706432, 1610612736, 536870912], 0 ≤ z ∧ z ≤ 4294967295 := by decide

/-- Bytes that came in. -/
def BytesIn (w : World) (a : Option Addr) (len : Nat) : Prop :=
  len ≤ 140737488355328 ∧ (len = 0 ∨ ∃ b off, a = some ⟨b, off, none⟩ ∧ b < w.heap.size ∧ ∀ i, i < len → ∃ n, w.cell? ⟨b, off + i, none⟩ = some (.int .u8 n) ∧ 0 ≤ n ∧ n ≤ 255)

theorem BytesIn.at {w : World} {a : Option Addr} {len : Nat} (h : BytesIn w a len) : BytesAt w w.heap.size a len := by
  refine ⟨h.1, ?_⟩
  rcases h.2 with h0 | ⟨b, off, ha, hb, hc⟩
  · exact .inl h0
  · exact .inr ⟨b, off, ha, hb, hc⟩

theorem BytesIn.below {w w' : World} {a : Option Addr} {len : Nat} (h : BytesIn w a len) (hg : Below w.heap.size w w') : BytesIn w' a len := by
  refine ⟨h.1, ?_⟩
  rcases h.2 with h0 | ⟨b, off, ha, hb, hc⟩
  · exact .inl h0
  · refine .inr ⟨b, off, ha, Nat.lt_of_lt_of_le hb hg.size, fun i hi => ?_⟩
    obtain ⟨n, h1, h2⟩ := hc i hi
    exact ⟨n, by rw [hg.cell (p := ⟨b, off + i, none⟩) hb]; exact h1, h2⟩

def MakesF (w : World) (e : Ending) (w' : World) : Prop := ∃ b, e = .returned (.float .f32 b) ∧ b < 4294967296 ∧ Below w.heap.size w w'

end Go.Proofs.YtcppoadeelnphaaDoor
