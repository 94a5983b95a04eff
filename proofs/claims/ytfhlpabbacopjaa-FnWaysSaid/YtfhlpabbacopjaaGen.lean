/- Data that the laws draw: loops that append what a source gives. -/
import Derived.Test.YtfhlpabbacopjaaPic
import Derived.Test.YtfhlpabbacopjaaBox
namespace Go.Proofs.Ytfhlpabbacopjaa
open Go.RowKit
set_option maxRecDepth 100000
set_option linter.unusedVariables false
set_option linter.unusedSimpArgs false

/-- A loop that appends numbers, drawn from the source in block sb, to the slice in place k of the block ob; rb holds the result. -/
structure GenSt (w wr : World) (L rb sb ob U k : Nat) (rc : Array Value) (cs : Array Value) (T : TypeId) (v : Value) (bs : List Nat) : Prop where
  bel : w.grownBy wr (some sb)
  src : SrcOk wr L sb U
  hL : L ≤ w.heap.size
  res : BoxN wr rb rc T
  box : BoxN wr ob cs T
  slot : cs[k]? = some v
  own : OwnF wr w.heap.size v bs
  far : ∀ g, v.ownBlock = some g → g ≠ rb ∧ g ≠ sb ∧ g ≠ ob
  obf : w.heap.size ≤ ob
  rbf : w.heap.size ≤ rb
  ne1 : rb ≠ sb
  ne2 : rb ≠ ob
  ne3 : sb ≠ ob

/-- What was there is as it was, if the source is one's own. -/
theorem below_of_grown {w wr : World} {sb : Nat} (h : w.grownBy wr (some sb)) (hs : w.heap.size ≤ sb) : Below w.heap.size w wr :=
  ⟨h.os, h.tape, h.output, h.size, fun k hk => h.block k hk (by simp; omega)⟩
theorem grown_new {w w1 w2 : World} {sb : Nat} {r : Option Nat} (h : w.grownBy w1 (some sb)) (hg : w1.grownBy w2 r) (hr : ∀ k, r = some k → w.heap.size ≤ k) : w.grownBy w2 (some sb) :=
  ⟨hg.os.trans h.os, hg.tape.trans h.tape, hg.output.trans h.output, Nat.le_trans h.size hg.size, fun i hi hn => (hg.block i (Nat.lt_of_lt_of_le hi h.size) (fun e => by have := hr i e.symm; omega)).trans (h.block i hi hn)⟩
theorem GenSt.farb {w wr : World} {L rb sb ob U k : Nat} {rc : Array Value} {cs : Array Value} {T : TypeId} {v : Value} {bs : List Nat} (h : GenSt w wr L rb sb ob U k rc cs T v bs) : v.ownBlock = none ∨ v.ownBlock ≠ some rb := by
  cases hv : v.ownBlock with
  | none => exact .inl rfl
  | some g => exact .inr (fun e => by injection e with e; exact (h.far g hv).1 e)
/-- One element more: the source has drawn (w1), the element has been laid, appended (w2) and stored back. -/
theorem GenSt.fars {w wr : World} {L rb sb ob U k : Nat} {rc : Array Value} {cs : Array Value} {T : TypeId} {v : Value} {bs : List Nat} (h : GenSt w wr L rb sb ob U k rc cs T v bs) : v.ownBlock = none ∨ v.ownBlock ≠ some sb := by
  cases hv : v.ownBlock with
  | none => exact .inl rfl
  | some g => exact .inr (fun e => by injection e with e; exact (h.far g hv).2.1 e)
theorem GenSt.step {w wr w1 w2 : World} {L rb sb ob U V k r : Nat} {rc cs : Array Value} {T E : TypeId} {v : Value} {bs : List Nat} {gg cap : Nat} (h : GenSt w wr L rb sb ob U k rc cs T v bs)
    (hd : Drew L sb V wr w1) (hr : r < 4294967296)
    (hown : w2.ownsRow w.heap.size 28 1 (.slice (some ⟨gg, 0, none⟩) (bs.length + 1) cap) (bs.length + 1) (bs.map (Value.float .f32) ++ [.float .f32 r]))
    (hg : (w1.alloc (.cells #[.float .f32 r] E)).grownBy w2 v.ownBlock) (hat : v.ownBlock = some gg ∨ gg = w1.heap.size + 1) :
    GenSt w (w2.setCell ⟨ob, k, none⟩ (.slice (some ⟨gg, 0, none⟩) (bs.length + 1) cap)) L rb sb ob V k rc (cs.setIfInBounds k (.slice (some ⟨gg, 0, none⟩) (bs.length + 1) cap)) T (.slice (some ⟨gg, 0, none⟩) (bs.length + 1) cap) (bs ++ [r]) := by
  have hal : Below w1.heap.size w1 (w1.alloc (.cells #[.float .f32 r] E)) := (Below.refl _ _).alloc (Nat.le_refl _) _
  have s0 := h.bel.size
  have s1 : wr.heap.size ≤ w1.heap.size := hd.grown.size
  have l1 := h.res.lt
  have l2 := h.src.lt
  have l3 := h.box.lt
  have hL := h.hL
  have hobf := h.obf
  have far' : gg ≠ rb ∧ gg ≠ sb ∧ gg ≠ ob := by
    rcases hat with e | e
    · exact h.far gg e
    · omega
  have b1 : w.grownBy w1 (some sb) := grown_trans h.bel hd.grown
  have b2 : w.grownBy (w1.alloc (.cells #[.float .f32 r] E)) (some sb) := grown_trans b1 (grown_below hal _)
  have b3 : w.grownBy w2 (some sb) := grown_new b2 hg (fun k hk => (h.own.lt hk).1)
  have k1 : some rb ≠ v.ownBlock := fun e => (h.far rb e.symm).1 rfl
  have k2 : some sb ≠ v.ownBlock := fun e => (h.far sb e.symm).2.1 rfl
  have k3 : some ob ≠ v.ownBlock := fun e => (h.far ob e.symm).2.2 rfl
  have src2 : SrcOk w2 L sb V := (hd.ok.below hal).grown hg k2 (fun k hk => Nat.le_trans hL (h.own.lt hk).1)
  have res2 : BoxN w2 rb rc T := ((h.res.grown hd.grown (by simpa using h.ne1)).below hal).grown hg k1
  have box2 : BoxN w2 ob cs T := ((h.box.grown hd.grown (by simpa using Ne.symm h.ne3)).below hal).grown hg k3
  have hk : k < cs.size := by
    rcases Nat.lt_or_ge k cs.size with g | g
    · exact g
    · have := h.slot; rw [Array.getElem?_eq_none g] at this; cases this
  have gs := grown_setCell w2 ⟨ob, k, none⟩ (.slice (some ⟨gg, 0, none⟩) (bs.length + 1) cap)
  refine ⟨grown_new b3 gs (fun k hk => by injection hk with e; simp at e; omega), src2.grown gs (by simpa using h.ne3) (fun k hk => by injection hk with e; simp at e; omega), hL, res2.grown gs (by simpa using h.ne2), box2.set k _, by simp [hk], ⟨?_, ?_⟩, ?_, h.obf, h.rbf, h.ne1, h.ne2, h.ne3⟩
  · have q := hown.kept gs (.inr (by simp [Value.ownBlock]; exact far'.2.2))
    simpa using q
  · intro b hb'
    rcases List.mem_append.1 hb' with h1 | h1
    · exact h.own.2 b h1
    · simp at h1; omega
  · intro g hg2
    have : gg = g := by simpa [Value.ownBlock] using hg2
    subst this; exact far'

/-- The word of k quarters. -/
def qt (k : Nat) : Nat := (floatBits .quo .f32 (floatOfInt .f32 k) 1082130432).getD 0
theorem qt_some : ∀ k : Nat, k ≤ 64 → floatBits .quo .f32 (floatOfInt .f32 k) 1082130432 = some (qt k) := by
  have h : ∀ k : Fin 65, (floatBits .quo .f32 (floatOfInt .f32 (k.val : Int)) 1082130432) = some (qt k.val) := by decide +kernel
  intro k hk; exact h ⟨k, by omega⟩
theorem qt_lt : ∀ k : Nat, k ≤ 64 → qt k < 4294967296 := by
  have h : ∀ k : Fin 65, qt k.val < 4294967296 := by decide +kernel
  intro k hk; exact h ⟨k, by omega⟩

theorem r8Long_no (w : World) (a0 a1 : Option Addr) (l0 c0 l1 c1 : Nat) (h0 : l0 ≤ 48) (h1 : l1 ≤ 48) :
    Calls Try.prog 8 #[.slice a0 l0 c0, .slice a1 l1 c1] w fun e w' => e = .returned (.bool false) ∧ w = w' := by
  go_enter Try.func8, Try.ntmps8
  go_wp2
  all_goals (go_ret; simp [*]; try omega)

theorem r8Long_yes (w : World) (a0 a1 : Option Addr) (l0 c0 l1 c1 : Nat) (m0 : l0 ≤ 9223372036854775807) (m1 : l1 ≤ 9223372036854775807) (h : ¬ (l0 ≤ 48 ∧ l1 ≤ 48)) :
    Calls Try.prog 8 #[.slice a0 l0 c0, .slice a1 l1 c1] w fun e w' => e = .returned (.bool true) ∧ w = w' := by
  by_cases h0 : l0 ≤ 48
  · have h1 : ¬ l1 ≤ 48 := fun h1 => h ⟨h0, h1⟩
    clear h
    go_enter Try.func8, Try.ntmps8
    go_wp2
    all_goals (go_ret; simp [*]; try omega)
  · clear h
    go_enter Try.func8, Try.ntmps8
    go_wp2
    all_goals (go_ret; simp [*]; try omega)

def SomeBelow (w : World) (lo hi : Int) (e : Ending) (w' : World) : Prop := ∃ n, e = .returned (.int .i64 n) ∧ lo ≤ n ∧ n ≤ hi ∧ w = w'

theorem r8At_any (w : World) (a : Option Addr) (len cap : Nat) (k : Nat) (n : Int) (hn : 1 ≤ n) (hn2 : n ≤ 1000000) (hk : k ≤ 1000) (h : BytesIn w a len) :
    Calls Try.prog 11 #[.slice a len cap, .int .i64 k, .int .i64 n] w (SomeBelow w 0 (n - 1)) := by
  have hl := h.1
  by_cases h1 : n = 1
  · subst h1
    go_enter Try.func11, Try.ntmps11
    go_wp2
    go_ret
    exact ⟨0, rfl, by omega, by omega, rfl⟩
  · have d1 : decide (n ≤ 1) = false := by simp; omega
    by_cases h2 : k < len
    · rcases h.2 with h0 | ⟨b, off, rfl, hb, hc⟩
      · omega
      · obtain ⟨z, hz, hz0, hz1⟩ := hc k h2
        have d2 : decide (len ≤ k) = false := by simp; omega
        clear hc h
        go_enter Try.func11, Try.ntmps11
        go_wp2
        go_ret
        exact ⟨_, rfl, Int.emod_nonneg _ (by omega), by have := Int.emod_lt_of_pos z (show 0 < n by omega); omega, rfl⟩
    · have d2 : decide (len ≤ k) = true := by simp; omega
      go_enter Try.func11, Try.ntmps11
      go_wp2
      go_ret
      exact ⟨0, rfl, by omega, by omega, rfl⟩

/-- A picture of quarters. -/
def QuartPic (w : World) (e : Ending) (w' : World) : Prop :=
  ∃ (wd hi : Nat) (a : Option Addr) (c : Nat) (bs : List Nat), e = .returned (.agg #[.int .i64 wd, .int .i64 hi, .slice a (List.length bs) c]) ∧ 2 ≤ wd ∧ wd ≤ 6 ∧ 1 ≤ hi ∧ hi ≤ 4 ∧ bs.length = wd * hi ∧ OwnF w' w.heap.size (.slice a (List.length bs) c) bs ∧ (∀ b ∈ bs, ∃ k, k ≤ 16 ∧ b = qt k) ∧ Below w.heap.size w w'

/-- Any right picture. -/
def WildPic (L sb U : Nat) (w : World) (e : Ending) (w' : World) : Prop :=
  ∃ (wd hi : Nat) (a : Option Addr) (c : Nat) (bs : List Nat), e = .returned (.agg #[.int .i64 wd, .int .i64 hi, .slice a (List.length bs) c]) ∧ 2 ≤ wd ∧ wd ≤ 6 ∧ 1 ≤ hi ∧ hi ≤ 4 ∧ bs.length = wd * hi ∧ OwnF w' w.heap.size (.slice a (List.length bs) c) bs ∧ Drew L sb U w w'

end Go.Proofs.Ytfhlpabbacopjaa
