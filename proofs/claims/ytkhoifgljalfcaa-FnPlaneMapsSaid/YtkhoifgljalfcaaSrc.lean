/- Contracts of the sources of choices: what is drawn lies in its range; nothing but the source's own block is written. -/
import Derived.Test.YtkhoifgljalfcaaNum
import Derived.Deep.QuietTactic
import Derived.BigQuiet
import Derived.OneCell
import Derived.Laws.AppendOwn
namespace Go.Proofs.Ytkhoifgljalfcaa
open Go.RowKit
set_option maxRecDepth 100000
set_option linter.unusedVariables false

/-- The bytes that a slice leads to. -/
def BytesAt (w : World) (L : Nat) (a : Option Addr) (len : Nat) : Prop :=
  len ≤ 140737488355328 ∧ (len = 0 ∨ ∃ b off, a = some ⟨b, off, none⟩ ∧ b < L ∧ ∀ i, i < len → ∃ n, w.cell? ⟨b, off + i, none⟩ = some (.int .u8 n) ∧ 0 ≤ n ∧ n ≤ 255)

/-- A source: its block, how much of it may have been read. -/
def SrcOk (w : World) (L sb U : Nat) : Prop :=
  ∃ (a : Option Addr) (len cap at_ : Nat) (seed : Int), w.heap[sb]? = some (.cells #[.slice a len cap, .int .i64 at_, .int .u64 seed] 118 (0, 0)) ∧ at_ ≤ U ∧ BytesAt w L a len ∧ L ≤ sb ∧ 0 ≤ seed ∧ seed ≤ 18446744073709551615

theorem src_cell {w : World} {sb : Nat} {x y z : Value} {T : TypeId} (h : w.heap[sb]? = some (.cells #[x, y, z] T (0, 0))) : w.cell? ⟨sb, 0, none⟩ = some x ∧ w.cell? ⟨sb, 1, none⟩ = some y ∧ w.cell? ⟨sb, 2, none⟩ = some z ∧ w.frozen? ⟨sb, 1, none⟩ = false ∧ w.frozen? ⟨sb, 2, none⟩ = false := by
  simp [World.cell?, World.frozen?, h]

theorem next_1 (w : World) (sb b off len cap at_ : Nat) (seed : Int) (h : w.heap[sb]? = some (.cells #[.slice (some ⟨b, off, none⟩) len cap, .int .i64 at_, .int .u64 seed] 118 (0, 0))) (hU : at_ < 4611686018427387904) (hl : len ≤ 140737488355328) (hlt : at_ < len) (n : Int) (hc : w.cell? ⟨b, off + at_, none⟩ = some (.int .u8 n)) (hn0 : 0 ≤ n) (hn1 : n ≤ 255) :
    Calls Try.prog 97 #[.pointer (some ⟨sb, 0, none⟩)] w fun e w' => ∃ k k' s', e = .returned (.int .i64 n) ∧ w' = (((w.drewN k).setCell ⟨sb, 1, none⟩ (.int .i64 ((at_ : Int) + 1))).setCell ⟨sb, 2, none⟩ (.int .u64 (IntKind.u64.wrap s'))).drewN k' := by
  obtain ⟨c0, c1, c2, f1, f2⟩ := src_cell h
  clear h
  go_enter Try.func97, Try.ntmps97
  go_wp2
  go_quiet (fail)
  go_wp2
  go_quiet (fail)
  go_wp2
  go_quiet (fail)
  go_wp2
  go_ret
  exact ⟨_, _, _, rfl, rfl⟩

theorem wrap_u64_range (x : Int) : 0 ≤ IntKind.u64.wrap x ∧ IntKind.u64.wrap x ≤ 18446744073709551615 := by rw [IntKind.wrap_u64]; omega

theorem last_byte (x : Int) (h0 : 0 ≤ x) (h1 : x ≤ 18446744073709551615) : 0 ≤ wrap64 (bits .and .u64 (x / 1099511627776) 255) ∧ wrap64 (bits .and .u64 (x / 1099511627776) 255) ≤ 255 := by
  rw [u64_and _ _ (by omega) (by omega) (by omega) (by omega)]
  have h : (x / 1099511627776).toNat &&& (255 : Int).toNat ≤ 255 := Nat.and_le_right
  generalize (x / 1099511627776).toNat &&& (255 : Int).toNat = z at *
  have e : wrap64 (z : Int) = z := by unfold wrap64; omega
  rw [e]; omega

theorem next_2 (w : World) (sb len cap at_ : Nat) (a : Option Addr) (seed : Int) (h : w.heap[sb]? = some (.cells #[.slice a len cap, .int .i64 at_, .int .u64 seed] 118 (0, 0))) (hU : at_ < 4611686018427387904) (hl : len ≤ 140737488355328) (hlt : len ≤ at_) :
    Calls Try.prog 97 #[.pointer (some ⟨sb, 0, none⟩)] w fun e w' => ∃ k k' s' n, e = .returned (.int .i64 n) ∧ 0 ≤ n ∧ n ≤ 255 ∧ w' = (((w.drewN k).setCell ⟨sb, 1, none⟩ (.int .i64 ((at_ : Int) + 1))).setCell ⟨sb, 2, none⟩ (.int .u64 (IntKind.u64.wrap s'))).drewN k' := by
  obtain ⟨c0, c1, c2, f1, f2⟩ := src_cell h
  clear h
  go_enter Try.func97, Try.ntmps97
  go_wp2
  go_quiet (fail)
  go_wp2
  go_quiet (fail)
  go_wp2
  go_ret
  exact ⟨_, _, _, _, rfl, (last_byte _ (wrap_u64_range _).1 (wrap_u64_range _).2).1, (last_byte _ (wrap_u64_range _).1 (wrap_u64_range _).2).2, rfl⟩

theorem heap_set2 {w : World} {sb : Nat} {x y z y' z' : Value} {T : TypeId} (h : w.heap[sb]? = some (.cells #[x, y, z] T (0, 0))) (k k' : Nat) :
    ((((w.drewN k).setCell ⟨sb, 1, none⟩ y').setCell ⟨sb, 2, none⟩ z').drewN k').heap[sb]? = some (.cells #[x, y', z'] T (0, 0)) := by
  have hlt := lt_of_block h
  have h' : w.heap[sb] = .cells #[x, y, z] T (0, 0) := by simpa [Array.getElem?_eq_getElem hlt] using h
  have e : ((((w.drewN k).setCell ⟨sb, 1, none⟩ y').setCell ⟨sb, 2, none⟩ z').drewN k').heap = (((w.drewN k).setCell ⟨sb, 1, none⟩ y').setCell ⟨sb, 2, none⟩ z').heap := rfl
  rw [e]
  simp only [World.setCell]
  rw [Array.getElem?_eq_getElem (by simpa using hlt), Array.getElem_modify_self, Array.getElem_modify_self]
  simp only [World.heap_drewN, h']
  rfl

theorem grown_set2 (w : World) (sb : Nat) (y' z' : Value) (k k' : Nat) : w.grownBy ((((w.drewN k).setCell ⟨sb, 1, none⟩ y').setCell ⟨sb, 2, none⟩ z').drewN k') (some sb) := by
  refine ⟨rfl, rfl, rfl, by simp [World.setCell], fun i hi hne => ?_⟩
  have hne' : sb ≠ i := fun e => hne (by rw [e])
  have e : ((((w.drewN k).setCell ⟨sb, 1, none⟩ y').setCell ⟨sb, 2, none⟩ z').drewN k').heap = (((w.drewN k).setCell ⟨sb, 1, none⟩ y').setCell ⟨sb, 2, none⟩ z').heap := rfl
  rw [e]
  simp only [World.setCell, Array.getElem?_modify, if_neg hne', World.heap_drewN]

theorem BytesAt.grown {w w' : World} {L : Nat} {r : Option Nat} {a : Option Addr} {len : Nat} (h : BytesAt w L a len) (hg : w.grownBy w' r) (hr : ∀ k, r = some k → L ≤ k) : BytesAt w' L a len := by
  refine ⟨h.1, ?_⟩
  rcases h.2 with h0 | ⟨b, off, ha, hb, hc⟩
  · exact .inl h0
  · refine .inr ⟨b, off, ha, hb, fun i hi => ?_⟩
    obtain ⟨n, h1, h2⟩ := hc i hi
    exact ⟨n, hg.cell h1 (fun e => by have := hr b e.symm; omega), h2⟩

theorem SrcOk.mono {w : World} {L sb U V : Nat} (h : SrcOk w L sb U) (hUV : U ≤ V) : SrcOk w L sb V := by
  obtain ⟨a, len, cap, at_, seed, h1, h2, h3⟩ := h
  exact ⟨a, len, cap, at_, seed, h1, by omega, h3⟩

/-- The source is left alone where only new blocks are made. -/
theorem SrcOk.below {w w' : World} {L sb U : Nat} (h : SrcOk w L sb U) (hb : Below w.heap.size w w') : SrcOk w' L sb U := by
  obtain ⟨a, len, cap, at_, seed, h1, h2, h3, h4, h5⟩ := h
  exact ⟨a, len, cap, at_, seed, by rw [hb.block sb (lt_of_block h1)]; exact h1, h2, h3.grown (r := none) ⟨hb.os, hb.tape, hb.output, hb.size, fun i hi _ => hb.block i hi⟩ (fun k hk => by cases hk), h4, h5⟩

/-- The source is left alone where another block, not of the bytes, is written. -/
theorem SrcOk.grown {w w' : World} {L sb U : Nat} {r : Option Nat} (h : SrcOk w L sb U) (hg : w.grownBy w' r) (hne : some sb ≠ r) (hr : ∀ k, r = some k → L ≤ k) : SrcOk w' L sb U := by
  obtain ⟨a, len, cap, at_, seed, h1, h2, h3, h4, h5⟩ := h
  exact ⟨a, len, cap, at_, seed, by rw [hg.block sb (lt_of_block h1) hne]; exact h1, h2, h3.grown hg hr, h4, h5⟩

theorem SrcOk.lt {w : World} {L sb U : Nat} (h : SrcOk w L sb U) : sb < w.heap.size := by
  obtain ⟨a, len, cap, at_, seed, h1, _⟩ := h; exact lt_of_block h1

/-- What a draw leaves behind: the source's block alone is written. -/
def Drew (L sb U : Nat) (w w' : World) : Prop := SrcOk w' L sb U ∧ w.grownBy w' (some sb)

theorem Drew.ok {L sb U : Nat} {w w' : World} (h : Drew L sb U w w') : SrcOk w' L sb U := h.1

theorem Drew.grown {L sb U : Nat} {w w' : World} (h : Drew L sb U w w') : w.grownBy w' (some sb) := h.2

theorem grown_trans {a b c : World} {r : Option Nat} (h : a.grownBy b r) (k : b.grownBy c r) : a.grownBy c r :=
  ⟨k.os.trans h.os, k.tape.trans h.tape, k.output.trans h.output, Nat.le_trans h.size k.size, fun i hi hn => (k.block i (Nat.lt_of_lt_of_le hi h.size) hn).trans (h.block i hi hn)⟩

theorem grown_drewN (w : World) (n : Nat) (r : Option Nat) : w.grownBy (w.drewN n) r := ⟨rfl, rfl, rfl, Nat.le_refl _, fun _ _ _ => rfl⟩

theorem grown_refl (w : World) (r : Option Nat) : w.grownBy w r := ⟨rfl, rfl, rfl, Nat.le_refl _, fun _ _ _ => rfl⟩

theorem grown_below {w w' : World} (h : Below w.heap.size w w') (r : Option Nat) : w.grownBy w' r := ⟨h.os, h.tape, h.output, h.size, fun i hi _ => h.block i hi⟩

theorem Drew.trans {L sb U V : Nat} {a b c : World} (h : Drew L sb U a b) (k : Drew L sb V b c) : Drew L sb V a c := ⟨k.1, grown_trans h.2 k.2⟩

theorem SrcOk.drewN {w : World} {L sb U : Nat} (h : SrcOk w L sb U) (n : Nat) : SrcOk (w.drewN n) L sb U := h

theorem Drew.below {L sb U : Nat} {a b c : World} (h : Drew L sb U a b) (k : Below b.heap.size b c) : Drew L sb U a c := ⟨h.1.below k, grown_trans h.2 (grown_below k _)⟩

theorem Drew.drewN {L sb U : Nat} {a b : World} (h : Drew L sb U a b) (n : Nat) : Drew L sb U a (b.drewN n) := ⟨h.1, grown_trans h.2 (grown_drewN b n _)⟩

theorem Drew.refl {L sb U : Nat} {w : World} (h : SrcOk w L sb U) : Drew L sb U w w := ⟨h, grown_refl w _⟩

theorem Drew.mono {L sb U V : Nat} {a b : World} (h : Drew L sb U a b) (hUV : U ≤ V) : Drew L sb V a b := ⟨h.1.mono hUV, h.2⟩

def DrawsInt (L sb U : Nat) (lo hi : Int) (w : World) (e : Ending) (w' : World) : Prop := ∃ n, e = .returned (.int .i64 n) ∧ lo ≤ n ∧ n ≤ hi ∧ Drew L sb U w w'

theorem next_any (w : World) {L : Nat} (sb U : Nat) (h : SrcOk w L sb U) (hU : U < 4611686018427387904) :
    Calls Try.prog 97 #[.pointer (some ⟨sb, 0, none⟩)] w (DrawsInt L sb (U + 1) 0 255 w) := by
  obtain ⟨a, len, cap, at_, seed, h1, h2, h3, hLs, h4, h5⟩ := h
  have fin : ∀ (k k' : Nat) (s' n : Int) (e : Ending) (w' : World), e = .returned (.int .i64 n) → 0 ≤ n → n ≤ 255 → w' = (((w.drewN k).setCell ⟨sb, 1, none⟩ (.int .i64 ((at_ : Int) + 1))).setCell ⟨sb, 2, none⟩ (.int .u64 (IntKind.u64.wrap s'))).drewN k' → DrawsInt L sb (U + 1) 0 255 w e w' := by
    intro k k' s' n e w' he hn0 hn1 hw
    subst hw
    have hg := grown_set2 w sb (.int .i64 ((at_ : Int) + 1)) (.int .u64 (IntKind.u64.wrap s')) k k'
    refine ⟨n, he, hn0, hn1, ⟨a, len, cap, at_ + 1, IntKind.u64.wrap s', ?_, by omega, h3.grown hg (fun k hk => by injection hk with e; omega), hLs, wrap_u64_range _⟩, hg⟩
    rw [heap_set2 h1]; rfl
  by_cases hlt : at_ < len
  · rcases h3.2 with h0 | ⟨b, off, rfl, hb, hc⟩
    · omega
    · obtain ⟨n, hn, hn0, hn1⟩ := hc at_ hlt
      exact (next_1 w sb b off len cap at_ seed h1 (by omega) h3.1 hlt n hn hn0 hn1).mono fun e w' ⟨k, k', s', he, hw⟩ => fin k k' s' n e w' he hn0 hn1 hw
  · exact (next_2 w sb len cap at_ a seed h1 (by omega) h3.1 (by omega)).mono fun e w' ⟨k, k', s', n, he, hn0, hn1, hw⟩ => fin k k' s' n e w' he hn0 hn1 hw

theorem pick_any (w : World) {L : Nat} (sb U : Nat) (n : Int) (hn : 1 ≤ n) (hn2 : n ≤ 65536) (h : SrcOk w L sb U) (hU : U < 4611686018427387000) :
    Calls Try.prog 55 #[.pointer (some ⟨sb, 0, none⟩), .int .i64 n] w (DrawsInt L sb (U + 2) 0 (n - 1) w) := by
  by_cases h1 : n = 1
  · subst h1
    go_enter Try.func55, Try.ntmps55
    go_wp2
    go_ret
    exact ⟨0, rfl, by omega, by omega, Drew.refl (h.mono (by omega))⟩
  · have hn1 : ¬ n ≤ 1 := by omega
    by_cases h2 : 200 < n
    · go_enter Try.func55, Try.ntmps55
      go_wp2_with fail
      refine (next_any _ _ _ h (by omega)).mono ?_
      rintro e w1 ⟨x, rfl, hx0, hx1, hd⟩
      go_wp2_with fail
      refine (next_any _ _ _ hd.ok (by omega)).mono ?_
      rintro e w2 ⟨y, rfl, hy0, hy1, hd2⟩
      go_wp2
      go_ret
      exact ⟨_, rfl, Int.emod_nonneg _ (by omega), by have := Int.emod_lt_of_pos (x * 256 + y) (show 0 < n by omega); omega, hd.trans hd2⟩
    · go_enter Try.func55, Try.ntmps55
      go_wp2_with fail
      refine (next_any _ _ _ h (by omega)).mono ?_
      rintro e w1 ⟨x, rfl, hx0, hx1, hd⟩
      go_wp2
      go_ret
      exact ⟨_, rfl, Int.emod_nonneg _ (by omega), by have := Int.emod_lt_of_pos x (show 0 < n by omega); omega, hd.mono (by omega)⟩

def DrawsBool (L sb U : Nat) (w : World) (e : Ending) (w' : World) : Prop := ∃ b : Bool, e = .returned (.bool b) ∧ Drew L sb U w w'

theorem one_any (w : World) {L : Nat} (sb U : Nat) (n : Int) (hn : 1 ≤ n) (hn2 : n ≤ 65536) (h : SrcOk w L sb U) (hU : U < 4611686018427387000) :
    Calls Try.prog 54 #[.pointer (some ⟨sb, 0, none⟩), .int .i64 n] w (DrawsBool L sb (U + 2) w) := by
  go_enter Try.func54, Try.ntmps54
  go_wp2_with fail
  refine (pick_any _ _ _ _ hn hn2 h (by omega)).mono ?_
  rintro e w1 ⟨x, rfl, hx0, hx1, hd⟩
  go_wp2
  go_ret
  exact ⟨_, rfl, hd⟩

theorem from_any (w : World) {L : Nat} (a : Option Addr) (len cap : Nat) (hb : BytesAt w L a len) (hL : L ≤ w.heap.size) :
    Calls Try.prog 53 #[.slice a len cap] w fun e w' => e = .returned (.pointer (some ⟨w.heap.size, 0, none⟩)) ∧ SrcOk w' L w.heap.size 0 ∧ Below w.heap.size w w' ∧ w.heap.size < w'.heap.size := by
  go_enter Try.func53, Try.ntmps53
  go_wp2
  go_ret
  refine ⟨rfl, ?_, (Below.refl _ _).alloc (Nat.le_refl _) _, by simp⟩
  have hbel : Below w.heap.size w (w.alloc (Obj.cells #[Value.slice a len cap, Value.int IntKind.i64 0, Value.int IntKind.u64 0] 118)) := (Below.refl _ _).alloc (Nat.le_refl _) _
  exact ⟨a, len, cap, 0, 0, heap_alloc_new w _, Nat.le_refl _, hb.grown (grown_below hbel none) (fun k hk => by cases hk), hL, by omega, by omega⟩

/-- A row of integers within bounds. -/
def IntsIn (w : World) (b off len : Nat) (lo hi : Int) : Prop := ∀ i, i < len → ∃ z, w.cell? ⟨b, off + i, none⟩ = some (.int .i64 z) ∧ lo ≤ z ∧ z ≤ hi

theorem among_any (w : World) {L : Nat} (sb U b off len cap : Nat) (lo hi : Int) (h1 : 1 ≤ len) (h2 : len ≤ 65536) (hi_ : IntsIn w b off len lo hi) (hb : b ≠ sb) (h : SrcOk w L sb U) (hU : U < 4611686018427387000) :
    Calls Try.prog 99 #[.pointer (some ⟨sb, 0, none⟩), .slice (some ⟨b, off, none⟩) len cap] w (DrawsInt L sb (U + 2) lo hi w) := by
  have hl : (1 : Int) ≤ (len : Int) := by omega
  go_enter Try.func99, Try.ntmps99
  go_wp2_with fail
  refine (pick_any _ _ _ _ hl (by omega) h (by omega)).mono ?_
  rintro e w1 ⟨x, rfl, hx0, hx1, hd⟩
  obtain ⟨k, rfl⟩ := Int.eq_ofNat_of_zero_le hx0
  have hk : k < len := by omega
  obtain ⟨z, hz, hz0, hz1⟩ := hi_ k hk
  have hz' : w1.cell? ⟨b, off + k, none⟩ = some (.int .i64 z) := hd.grown.cell hz (by simpa using hb)
  go_wp2
  go_ret
  exact ⟨_, rfl, hz0, hz1, hd⟩

def DrawsF (L sb U : Nat) (w : World) (e : Ending) (w' : World) : Prop := ∃ b, e = .returned (.float .f32 b) ∧ b < 4294967296 ∧ Drew L sb U w w'

theorem floatOfInt_lt (n : Int) : floatOfInt .f32 n < 4294967296 := by have := floatOfInt_wf .f32 n; simpa [Lit.wf] using this

theorem plain_any (w : World) {L : Nat} (sb U : Nat) (h : SrcOk w L sb U) (hU : U < 4611686018427386000) :
    Calls Try.prog 98 #[.pointer (some ⟨sb, 0, none⟩)] w (DrawsF L sb (U + 4) w) := by
  go_enter Try.func98, Try.ntmps98
  go_wp2_with fail
  refine (pick_any _ _ _ 129 (by omega) (by omega) h (by omega)).mono ?_
  rintro e w1 ⟨x, rfl, hx0, hx1, hd⟩
  go_wp2_with fail
  refine (one_any _ _ _ 4 (by omega) (by omega) hd.ok (by omega)).mono ?_
  rintro e w2 ⟨b, rfl, hd2⟩
  go_wp2
  all_goals (go_ret; exact ⟨_, rfl, fres_lt _ _ _ _, (hd.trans hd2).drewN _⟩)

theorem intsIn_alloc (w : World) (l : List Int) (T : TypeId) (lo hi : Int) (h : ∀ z ∈ l, lo ≤ z ∧ z ≤ hi) : IntsIn (w.alloc (.cells (l.map (Value.int .i64)).toArray T)) w.heap.size 0 l.length lo hi := by
  intro i hi
  refine ⟨l[i], ?_, h _ (List.getElem_mem hi)⟩
  unfold World.cell?
  rw [heap_alloc_new]
  simp [hi]

theorem ten_in : ∀ z ∈ [(0 : Int), 2147483648, 2139095040, 4286578688, 2143289344, 1, 2139095039, 8388608, 8388607, 2147483649], 0 ≤ z ∧ z ≤ 4294967295 := by decide

theorem four_in : ∀ z ∈ [(8388608 : Int), 2130706432, 1610612736, 536870912], 0 ≤ z ∧ z ≤ 4294967295 := by decide

theorem drawFloat_any (w : World) {L : Nat} (sb U : Nat) (h : SrcOk w L sb U) (hU : U < 4611686018427380000) :
    Calls Try.prog 57 #[.pointer (some ⟨sb, 0, none⟩)] w (DrawsF L sb (U + 20) w) := by
  go_enter Try.func57, Try.ntmps57
  go_wp2_with fail
  refine (one_any _ _ _ 12 (by omega) (by omega) h (by omega)).mono ?_
  rintro e w1 ⟨b, rfl, hd⟩
  cases b
  · go_wp2_with fail
    refine (plain_any _ _ _ hd.ok (by omega)).mono ?_
    rintro e w2 ⟨x, rfl, hx, hd2⟩
    go_wp2
    go_ret
    exact ⟨_, rfl, hx, (hd.trans hd2).mono (by omega)⟩
  · go_wp2_with fail
    refine (pick_any _ _ _ 4 (by omega) (by omega) hd.ok (by omega)).mono ?_
    rintro e w2 ⟨x, rfl, hx0, hx1, hd2⟩
    have hd12 := hd.trans hd2
    clear hd hd2
    have hx : x = 0 ∨ x = 1 ∨ x = 2 ∨ x = 3 := by omega
    rcases hx with rfl | rfl | rfl | rfl
    · go_wp2_with fail
      refine (among_any _ _ _ _ _ _ _ 0 4294967295 (by decide) (by decide) (intsIn_alloc w2 _ _ _ _ ten_in) (by have := hd12.ok.lt; omega) (hd12.ok.below ((Below.refl _ _).alloc (Nat.le_refl _) _)) (by omega)).mono ?_
      rintro e w3 ⟨y, rfl, hy0, hy1, hd3⟩
      go_wp2_with fail
      refine (s01From_any _ _ hy0 hy1).mono ?_
      rintro e w4 ⟨rfl, rfl⟩
      go_wp2
      go_ret
      exact ⟨_, rfl, by omega, ((hd12.below ((Below.refl _ _).alloc (Nat.le_refl _) _)).trans hd3).mono (by omega)⟩
    · go_wp2_with fail
      refine (pick_any _ _ _ 65536 (by omega) (by omega) hd12.ok (by omega)).mono ?_
      rintro e w3 ⟨y, rfl, hy0, hy1, hd3⟩
      go_wp2_with fail
      refine (pick_any _ _ _ 65536 (by omega) (by omega) hd3.ok (by omega)).mono ?_
      rintro e w4 ⟨z, rfl, hz0, hz1, hd4⟩
      go_wp2_with fail
      refine (s01From_any _ _ (by omega) (by omega)).mono ?_
      rintro e w5 ⟨rfl, rfl⟩
      go_wp2
      go_ret
      exact ⟨_, rfl, by omega, ((hd12.trans hd3).trans hd4).mono (by omega)⟩
    · go_wp2_with fail
      refine (pick_any _ _ _ 65536 (by omega) (by omega) hd12.ok (by omega)).mono ?_
      rintro e w3 ⟨y, rfl, hy0, hy1, hd3⟩
      go_wp2_with fail
      refine (s01From_any _ _ (by omega) (by omega)).mono ?_
      rintro e w5 ⟨rfl, rfl⟩
      go_wp2
      go_ret
      exact ⟨_, rfl, by omega, (hd12.trans hd3).mono (by omega)⟩
    · go_wp2_with fail
      refine (plain_any _ _ _ hd12.ok (by omega)).mono ?_
      rintro e w3 ⟨y, rfl, hy, hd3⟩
      have hd13 := hd12.trans hd3
      clear hd12 hd3
      go_wp2_with fail
      refine (among_any _ _ _ _ _ _ _ 0 4294967295 (by decide) (by decide) (intsIn_alloc w3 _ _ _ _ four_in) (by have := hd13.ok.lt; omega) (hd13.ok.below ((Below.refl _ _).alloc (Nat.le_refl _) _)) (by omega)).mono ?_
      rintro e w4 ⟨z, rfl, hz0, hz1, hd4⟩
      go_wp2_with fail
      refine (s01From_any _ _ hz0 hz1).mono ?_
      rintro e w5 ⟨rfl, rfl⟩
      go_wp2
      go_ret
      exact ⟨_, rfl, fres_lt _ _ _ _, (((hd13.below ((Below.refl _ _).alloc (Nat.le_refl _) _)).trans hd4).drewN _).mono (by omega)⟩

/-- Bytes that came in. -/
def BytesIn (w : World) (a : Option Addr) (len : Nat) : Prop :=
  len ≤ 140737488355328 ∧ (len = 0 ∨ ∃ b off, a = some ⟨b, off, none⟩ ∧ b < w.heap.size ∧ ∀ i, i < len → ∃ n, w.cell? ⟨b, off + i, none⟩ = some (.int .u8 n) ∧ 0 ≤ n ∧ n ≤ 255)

theorem BytesIn.at {w : World} {a : Option Addr} {len : Nat} (h : BytesIn w a len) : BytesAt w w.heap.size a len := by
  refine ⟨h.1, ?_⟩
  rcases h.2 with h0 | ⟨b, off, ha, hb, hc⟩
  · exact .inl h0
  · exact .inr ⟨b, off, ha, hb, hc⟩

theorem BytesIn.below {w w' : World} {a : Option Addr} {len : Nat} (h : BytesIn w a len) (hg : Below w.heap.size w w') : BytesIn w' a len := by
  refine ⟨h.1, ?_⟩
  rcases h.2 with h0 | ⟨b, off, ha, hb, hc⟩
  · exact .inl h0
  · refine .inr ⟨b, off, ha, Nat.lt_of_lt_of_le hb hg.size, fun i hi => ?_⟩
    obtain ⟨n, h1, h2⟩ := hc i hi
    exact ⟨n, by rw [hg.cell (p := ⟨b, off + i, none⟩) hb]; exact h1, h2⟩

/-- A source of one's own, done with. -/
theorem Drew.away {w0 w1 w2 : World} {L sb U : Nat} (h : Drew L sb U w1 w2) (hb : Below w0.heap.size w0 w1) (hs : w0.heap.size ≤ sb) : Below w0.heap.size w0 w2 :=
  hb.grown h.2 hb.size (fun k hk => by injection hk with e; omega)

def MakesF (w : World) (e : Ending) (w' : World) : Prop := ∃ b, e = .returned (.float .f32 b) ∧ b < 4294967296 ∧ Below w.heap.size w w'

theorem b10Number_any (w : World) (a : Option Addr) (len cap : Nat) (h : BytesIn w a len) :
    Calls Try.prog 13 #[.slice a len cap] w (MakesF w) := by
  go_enter Try.func13, Try.ntmps13
  go_wp2_with fail
  refine (from_any _ _ _ _ h.at (Nat.le_refl _)).mono ?_
  rintro e w1 ⟨rfl, hs, hb, hlt⟩
  generalize hsb : w.heap.size = sb at *
  have HB := Lib.hid hsb
  clear hsb
  go_wp2_with fail
  refine (one_any _ _ _ 2 (by omega) (by omega) hs (by omega)).mono ?_
  rintro e w2 ⟨b, rfl, hd⟩
  cases b
  · go_wp2_with fail
    refine (drawFloat_any _ _ _ hd.ok (by omega)).mono ?_
    rintro e w3 ⟨x, rfl, hx, hd2⟩
    go_wp2
    go_ret
    exact ⟨_, rfl, hx, (hd.trans hd2).away (by rw [HB.out]; exact hb) (by rw [HB.out]; omega)⟩
  · go_wp2_with fail
    refine (pick_any _ _ _ 65536 (by omega) (by omega) hd.ok (by omega)).mono ?_
    rintro e w3 ⟨y, rfl, hy0, hy1, hd3⟩
    go_wp2_with fail
    refine (pick_any _ _ _ 65536 (by omega) (by omega) hd3.ok (by omega)).mono ?_
    rintro e w4 ⟨z, rfl, hz0, hz1, hd4⟩
    go_wp2_with fail
    refine (s01From_any _ _ (by omega) (by omega)).mono ?_
    rintro e w5 ⟨rfl, rfl⟩
    go_wp2
    go_ret
    exact ⟨_, rfl, by omega, ((hd.trans hd3).trans hd4).away (by rw [HB.out]; exact hb) (by rw [HB.out]; omega)⟩

end Go.Proofs.Ytkhoifgljalfcaa
