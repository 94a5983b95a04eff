/- Lists of numbers that a source draws; laws.b10At. -/
import Derived.Test.YtkhoifgljalfcaaMem
import Derived.IntWalk
namespace Go.Proofs.Ytkhoifgljalfcaa
open Go.RowKit
set_option maxRecDepth 100000
set_option linter.unusedVariables false
set_option linter.unusedSimpArgs false

theorem info_f32' : (Try.prog.info? 24).map (fun i => (i.zero, i.size, i.bytes)) = some (some (.float .f32 0), 1, 4) := by kernel_rfl

theorem OwnF.made0 (w : World) : OwnF (w.alloc (.cells #[] 24)) w.heap.size (.slice (some ⟨w.heap.size, 0, none⟩) 0 0) [] :=
  ⟨⟨rfl, .inr ⟨w.heap.size, 0, #[], rfl, Nat.le_refl _, heap_alloc_new w _, Nat.le_refl _, by unfold maxLen; omega, rfl, rfl⟩⟩, by simp⟩

/-- A loop that appends what a source in block sb gives to a slice in a slot. -/
structure LstSt (w wr : World) (L sb U : Nat) (v : Value) (bs : List Nat) : Prop where
  bel : w.grownBy wr (some sb)
  src : SrcOk wr L sb U
  hL : L ≤ w.heap.size
  own : OwnF wr w.heap.size v bs
  far : v.ownBlock = none ∨ v.ownBlock ≠ some sb

theorem grown_new' {w w1 w2 : World} {sb : Nat} {r : Option Nat} (h : w.grownBy w1 (some sb)) (hg : w1.grownBy w2 r) (hr : ∀ k, r = some k → w.heap.size ≤ k) : w.grownBy w2 (some sb) :=
  ⟨hg.os.trans h.os, hg.tape.trans h.tape, hg.output.trans h.output, Nat.le_trans h.size hg.size, fun i hi hn => (hg.block i (Nat.lt_of_lt_of_le hi h.size) (fun e => by have := hr i e.symm; omega)).trans (h.block i hi hn)⟩

theorem LstSt.step {w wr w1 w2 : World} {L sb U V r : Nat} {E : TypeId} {v : Value} {bs : List Nat} {gg cap : Nat} (h : LstSt w wr L sb U v bs)
    (hd : Drew L sb V wr w1) (hr : r < 4294967296)
    (hown : w2.ownsRow w.heap.size 24 1 (.slice (some ⟨gg, 0, none⟩) (bs.length + 1) cap) (bs.length + 1) (bs.map (Value.float .f32) ++ [.float .f32 r]))
    (hg : (w1.alloc (.cells #[.float .f32 r] E)).grownBy w2 v.ownBlock) (hat : v.ownBlock = some gg ∨ gg = w1.heap.size + 1) :
    LstSt w w2 L sb V (.slice (some ⟨gg, 0, none⟩) (bs.length + 1) cap) (bs ++ [r]) := by
  have hal : Below w1.heap.size w1 (w1.alloc (.cells #[.float .f32 r] E)) := (Below.refl _ _).alloc (Nat.le_refl _) _
  have s1 : wr.heap.size ≤ w1.heap.size := hd.grown.size
  have l2 := h.src.lt
  have b2 : w.grownBy (w1.alloc (.cells #[.float .f32 r] E)) (some sb) := grown_trans (grown_trans h.bel hd.grown) (grown_below hal _)
  have b3 : w.grownBy w2 (some sb) := grown_new' b2 hg (fun k hk => (h.own.lt hk).1)
  have k2 : some sb ≠ v.ownBlock := by
    rcases h.far with e | e
    · rw [e]; simp
    · exact fun q => e q.symm
  refine ⟨b3, (hd.ok.below hal).grown hg k2 (fun k hk => Nat.le_trans h.hL (h.own.lt hk).1), h.hL, ⟨by simpa using hown, ?_⟩, .inr ?_⟩
  · intro b hb'
    rcases List.mem_append.1 hb' with h1 | h1
    · exact h.own.2 b h1
    · simp at h1; omega
  · have hn : gg ≠ sb := by
      rcases hat with e | e
      · rw [e] at k2; intro q; exact k2 (by rw [q])
      · omega
    simpa [Value.ownBlock] using hn

/-- A list of n numbers, drawn. -/
def DrawsList (L sb U n : Nat) (w : World) (e : Ending) (w' : World) : Prop :=
  ∃ g c bs, e = .returned (.slice (some ⟨g, 0, none⟩) n c) ∧ bs.length = n ∧ OwnF w' w.heap.size (.slice (some ⟨g, 0, none⟩) n c) bs ∧ Drew L sb U w w'

/-- A list of n numbers that the call has made. -/
def MakesList (n : Nat) (w : World) (e : Ending) (w' : World) : Prop :=
  ∃ g c bs, e = .returned (.slice (some ⟨g, 0, none⟩) n c) ∧ bs.length = n ∧ OwnF w' w.heap.size (.slice (some ⟨g, 0, none⟩) n c) bs ∧ Below w.heap.size w w'

/-- A list of n integers that the call has made. -/
def MakesWhole (n most : Nat) (w : World) (e : Ending) (w' : World) : Prop :=
  ∃ g c, ∃ ks : List Int, e = .returned (.slice (some ⟨g, 0, none⟩) n c) ∧ ks.length = n ∧ OwnF w' w.heap.size (.slice (some ⟨g, 0, none⟩) n c) (ks.map (floatOfInt .f32)) ∧ (∀ k ∈ ks, -(most : Int) ≤ k ∧ k ≤ most) ∧ Below w.heap.size w w'

theorem b10At_any (w : World) (a : Option Addr) (len cap : Nat) (k : Nat) (n : Int) (hn : 1 ≤ n) (hn2 : n ≤ 1000000) (hk : k ≤ 1000) (h : BytesIn w a len) :
    Calls Try.prog 8 #[.slice a len cap, .int .i64 k, .int .i64 n] w fun e w' => ∃ z, e = .returned (.int .i64 z) ∧ 0 ≤ z ∧ z ≤ n - 1 ∧ w = w' := by
  have hl := h.1
  by_cases h1 : n = 1
  · subst h1
    go_enter Try.func8, Try.ntmps8
    go_wp2
    go_ret
    exact ⟨0, rfl, by omega, by omega, rfl⟩
  · have d1 : decide (n ≤ 1) = false := by simp; omega
    by_cases h2 : k < len
    · rcases h.2 with h0 | ⟨b, off, rfl, hb, hc⟩
      · omega
      · obtain ⟨z, hz, hz0, hz1⟩ := hc k h2
        clear hc h
        go_enter Try.func8, Try.ntmps8
        go_wp2
        go_ret
        exact ⟨_, rfl, Int.emod_nonneg _ (by omega), by have := Int.emod_lt_of_pos z (show 0 < n by omega); omega, rfl⟩
    · go_enter Try.func8, Try.ntmps8
      go_wp2
      go_ret
      exact ⟨_, rfl, Int.emod_nonneg _ (by omega), by have := Int.emod_lt_of_pos ((k : Int) * 37 + 11) (show 0 < n by omega); omega, rfl⟩

end Go.Proofs.Ytkhoifgljalfcaa
