/- The reference's shifted picture, by words. -/
import Derived.Test.YtkifhajkmgeafaaGen
import Derived.Deep.RegionHeld3
import Derived.Deep.CutRange
namespace Go.Proofs.Ytkifhajkmgeafaa
open Go.RowKit
set_option maxRecDepth 100000
set_option linter.unusedVariables false
set_option linter.unusedSimpArgs false

theorem alb_k (w : World) (o : Obj) : Below w.heap.size w (w.alloc o) := (Below.refl _ _).alloc (Nat.le_refl _) _
/-- A loop that appends numbers to the slice of a picture of its own. -/
structure AccP (w wr : World) (ob wd hi : Nat) (v : Value) (bs : List Nat) : Prop where
  bel : Below w.heap.size w wr
  box : Box3 wr ob (.int .i64 wd) (.int .i64 hi) v 41
  own : OwnF wr w.heap.size v bs
  ne : some ob ≠ v.ownBlock
  obf : w.heap.size ≤ ob
theorem AccP.step {w wr w1 w2 : World} {ob wd hi r : Nat} {v : Value} {bs : List Nat} {T : TypeId} {gg cap : Nat} (h : AccP w wr ob wd hi v bs)
    (hb : Below wr.heap.size wr w1) (hr : r < 4294967296)
    (hown : w2.ownsRow w.heap.size 97 1 (.slice (some ⟨gg, 0, none⟩) (bs.length + 1) cap) (bs.length + 1) (bs.map (Value.float .f32) ++ [.float .f32 r]))
    (hg : (w1.alloc (.cells #[.float .f32 r] T)).grownBy w2 v.ownBlock) (hat : v.ownBlock = some gg ∨ gg = w1.heap.size + 1) :
    AccP w (w2.setCell ⟨ob, 2, none⟩ (.slice (some ⟨gg, 0, none⟩) (bs.length + 1) cap)) ob wd hi (.slice (some ⟨gg, 0, none⟩) (bs.length + 1) cap) (bs ++ [r]) := by
  have hal : Below w1.heap.size w1 (w1.alloc (.cells #[.float .f32 r] T)) := (Below.refl _ _).alloc (Nat.le_refl _) _
  have hlt := h.box.lt
  have s1 : wr.heap.size ≤ w1.heap.size := hb.size
  have hgg : gg ≠ ob := by
    rcases hat with e | e
    · intro q; exact h.ne (by rw [e, q])
    · omega
  have b2 : Below w.heap.size w w2 := ((h.bel.trans (hb.mono h.bel.size)).trans (hal.mono (Nat.le_trans h.bel.size s1))).grown hg (by simp; have := h.bel.size; omega) (fun k hk => by have := (h.own.lt hk).1; omega)
  refine ⟨b2.setCell h.obf _, ((((h.box.below hb).below hal).grown hg h.ne).set2 _), ⟨?_, ?_⟩, by simp [Value.ownBlock]; exact fun e => hgg e.symm, h.obf⟩
  · have k := hown.kept (grown_setCell w2 ⟨ob, 2, none⟩ (.slice (some ⟨gg, 0, none⟩) (bs.length + 1) cap)) (.inr (by simp [Value.ownBlock]; exact hgg))
    simpa using k
  · intro b hb'
    rcases List.mem_append.1 hb' with h1 | h1
    · exact h.own.2 b h1
    · simp at h1; omega

theorem own_ptr_k {w : World} {B n c : Nat} {a : Option Addr} {bs : List Nat} (h : OwnF w B (.slice a n c) bs) (h0 : 0 < bs.length) : ∃ q, a = some ⟨q, 0, none⟩ := by
  rcases h.form with ⟨h1, h2⟩ | ⟨q, cap, h1, h2⟩
  · rw [h2] at h0; simp at h0
  · injection h1 with h1; exact ⟨q, h1⟩
/-- The cells of a shifted picture. -/
def shW (bs : List Nat) (wd hi by_ : Nat) (i : Nat) : Nat := bs.getD (ix ((i % wd : Nat) + (by_ : Int)) (i / wd : Nat) wd hi) 0
theorem shW_at {bs : List Nat} {wd hi by_ x y : Nat} (hx : x < wd) : shW bs wd hi by_ (y * wd + x) = bs.getD (ix ((x : Int) + (by_ : Int)) (y : Int) wd hi) 0 := by
  unfold shW
  have e1 : (y * wd + x) % wd = x := by rw [Nat.mul_comm, Nat.mul_add_mod, Nat.mod_eq_of_lt hx]
  have e2 : (y * wd + x) / wd = y := by rw [Nat.mul_comm, Nat.mul_add_div (by omega), Nat.div_eq_of_lt hx, Nat.add_zero]
  rw [e1, e2]
def MakesSh (w : World) (wd hi : Nat) (bs : List Nat) (e : Ending) (w' : World) : Prop :=
  ∃ q c, e = .returned (.agg #[.int .i64 wd, .int .i64 hi, .slice (some ⟨q, 0, none⟩) (wd * hi) c]) ∧ OwnF w' w.heap.size (.slice (some ⟨q, 0, none⟩) (wd * hi) c) bs ∧ bs.length = wd * hi ∧ Below w.heap.size w w'

end Go.Proofs.Ytkifhajkmgeafaa
