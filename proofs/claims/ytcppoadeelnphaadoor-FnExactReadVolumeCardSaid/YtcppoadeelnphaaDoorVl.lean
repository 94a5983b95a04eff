/- impl.volumeOf: a volume whose costs are told by a function that writes nothing that was there. -/
import Derived.Test.YtcppoadeelnphaaDoorBox
namespace Go.Proofs.YtcppoadeelnphaaDoor
open Go.RowKit
set_option maxRecDepth 100000
set_option linter.unusedVariables false
set_option linter.unusedSimpArgs false

/-- How far a volume is made. -/
structure VolSt (w wr : World) (wd hi dp : Nat) (g : Nat → Nat → Nat → Nat) (m : Nat) (v : Value) (bs : List Nat) : Prop where
  bel : Below w.heap.size w wr
  res : BoxN wr w.heap.size #[.int .i64 0, .int .i64 0, .int .i64 0, .slice none 0 0] 37
  box : BoxN wr (w.heap.size + 1) #[.int .i64 wd, .int .i64 hi, .int .i64 dp, v] 37
  own : OwnF wr (w.heap.size + 2) v bs
  con : bs.map fl = tab m fun i => g (i / dp % wd) (i / dp / wd) (i % dp)
theorem VolSt.len {w wr : World} {wd hi dp m : Nat} {g : Nat → Nat → Nat → Nat} {v : Value} {bs : List Nat} (h : VolSt w wr wd hi dp g m v bs) : bs.length = m := by
  have := congrArg List.length h.con; simpa [tab_length] using this

theorem cell_parts {wd dp x y d : Nat} (hx : x < wd) (hd : d < dp) : ((y * wd + x) * dp + d) / dp = y * wd + x ∧ ((y * wd + x) * dp + d) % dp = d ∧ (y * wd + x) % wd = x ∧ (y * wd + x) / wd = y := by
  refine ⟨?_, ?_, ?_, ?_⟩
  · rw [Nat.mul_comm, Nat.mul_add_div (by omega), Nat.div_eq_of_lt hd, Nat.add_zero]
  · rw [Nat.mul_comm, Nat.mul_add_mod, Nat.mod_eq_of_lt hd]
  · rw [Nat.mul_comm, Nat.mul_add_mod, Nat.mod_eq_of_lt hx]
  · rw [Nat.mul_comm, Nat.mul_add_div (by omega), Nat.div_eq_of_lt hx, Nat.add_zero]

/-- A round of the innermost loop. -/
theorem VolSt.step {w wr w1 w2 : World} {wd hi dp x y d r : Nat} {g : Nat → Nat → Nat → Nat} {v : Value} {bs : List Nat} {T : TypeId} {gg cap : Nat} (h : VolSt w wr wd hi dp g ((y * wd + x) * dp + d) v bs) (hx : x < wd) (hd : d < dp)
    (hb : Below wr.heap.size wr w1) (hr : r < 4294967296) (hfl : fl r = g x y d)
    (hown : w2.ownsRow (w.heap.size + 2) 64 1 (.slice (some ⟨gg, 0, none⟩) (bs.length + 1) cap) (bs.length + 1) (bs.map (Value.float .f32) ++ [.float .f32 r]))
    (hg : (w1.alloc (.cells #[.float .f32 r] T)).grownBy w2 v.ownBlock) (hne : some (w.heap.size + 1) ≠ v.ownBlock) :
    VolSt w (w2.setCell ⟨w.heap.size + 1, 3, none⟩ (.slice (some ⟨gg, 0, none⟩) (bs.length + 1) cap)) wd hi dp g ((y * wd + x) * dp + (d + 1)) (.slice (some ⟨gg, 0, none⟩) (bs.length + 1) cap) (bs ++ [r]) := by
  have hal : Below w1.heap.size w1 (w1.alloc (.cells #[.float .f32 r] T)) := (Below.refl _ _).alloc (Nat.le_refl _) _
  have hlt := h.box.lt
  have s1 : wr.heap.size ≤ w1.heap.size := hb.size
  have hown' := (World.ownsRow.lt hown gg rfl).1
  have b2 : Below w.heap.size w w2 := ((h.bel.trans (hb.mono h.bel.size)).trans (hal.mono (Nat.le_trans h.bel.size s1))).grown hg (by simp; have := h.bel.size; omega) (fun k hk => by have := (h.own.lt hk).1; omega)
  have hres : some w.heap.size ≠ v.ownBlock := fun e => by have := (h.own.lt e.symm).1; omega
  refine ⟨b2.setCell (by simp) _, ?_, ?_, ⟨?_, ?_⟩, ?_⟩
  · exact (((h.res.below hb).below hal).grown hg hres).grown (grown_setCell _ _ _) (by simp)
  · exact ((((h.box.below hb).below hal).grown hg hne).set 3 _)
  · have k := hown.kept (grown_setCell w2 ⟨w.heap.size + 1, 3, none⟩ (.slice (some ⟨gg, 0, none⟩) (bs.length + 1) cap)) (.inr (by simp [Value.ownBlock]; omega))
    simpa using k
  · intro b hb'
    rcases List.mem_append.1 hb' with h1 | h1
    · exact h.own.2 b h1
    · simp at h1; omega
  · obtain ⟨e1, e2, e3, e4⟩ := cell_parts (y := y) hx hd
    rw [List.map_append, h.con, ← Nat.add_assoc, tab_succ]
    congr 1
    simp only [List.map_cons, List.map_nil, hfl]
    rw [e1, e2, e3, e4]

theorem VolSt.start (w : World) (wd hi dp : Nat) (g : Nat → Nat → Nat → Nat) :
    VolSt w ((w.alloc (.cells #[.int .i64 0, .int .i64 0, .int .i64 0, .slice none 0 0] 37)).alloc (.cells #[.int .i64 wd, .int .i64 hi, .int .i64 dp, .slice none 0 0] 37)) wd hi dp g 0 (.slice none 0 0) [] :=
  ⟨((Below.refl _ _).alloc (Nat.le_refl _) _).alloc (by simp) _, BoxN.first _ _ _ _, BoxN.second _ _ _ _, OwnF.nil _ _, rfl⟩

/-- A volume of sizes, by its table. -/
def MakesVol (w : World) (wd hi dp : Nat) (g : Nat → Nat → Nat → Nat) (e : Ending) (w' : World) : Prop :=
  ∃ a c bs, e = .returned (.agg #[.int .i64 wd, .int .i64 hi, .int .i64 dp, .slice a (List.length bs) c]) ∧ OwnF w' w.heap.size (.slice a (List.length bs) c) bs ∧ bs.map fl = tab3 wd hi dp g ∧ Below w.heap.size w w'

end Go.Proofs.YtcppoadeelnphaaDoor
