/- impl.made: a picture whose greys are told by a function that writes nothing that was there. -/
import Derived.Test.YtkhoifgljalfcaaMem
namespace Go.Proofs.Ytkhoifgljalfcaa
open Go.RowKit
set_option maxRecDepth 100000
set_option linter.unusedVariables false

/-- The list of n values of a function. -/
def tab (n : Nat) (f : Nat → Nat) : List Nat := (List.range n).map f

theorem tab_length (n : Nat) (f : Nat → Nat) : (tab n f).length = n := by unfold tab; simp

theorem tab_succ (n : Nat) (f : Nat → Nat) : tab (n + 1) f = tab n f ++ [f n] := by unfold tab; rw [List.range_succ]; simp

theorem tab_get (n : Nat) (f : Nat → Nat) (i : Nat) (h : i < (tab n f).length) : (tab n f)[i] = f i := by simp [tab]

/-- A function value of two integers that gives numbers and writes nothing that was there. -/
def Gives2 (w0 : World) (fv : Value) (wd hi : Nat) (g : Nat → Nat → Nat) : Prop :=
  ∃ fid caps, fv = .func (.func fid) #[] caps ∧ (∀ args w, (callFunc fid args).run Try.prog w = .ok (.enter fid args) w) ∧
    ∀ (x y : Nat) (W : World), x < wd → y < hi → Below w0.heap.size w0 W →
      Calls Try.prog fid (#[.int .i64 x, .int .i64 y] ++ caps) W fun e w' => ∃ r, e = .returned (.float .f32 r) ∧ r < 4294967296 ∧ fl r = g x y ∧ Below W.heap.size W w'

theorem info_f32 : (Try.prog.info? 24).map (fun i => (i.zero, i.size, i.bytes)) = some (some (.float .f32 0), 1, 4) := by kernel_rfl

/-- How far a picture is made. -/
structure MadeSt (w wr : World) (wd hi : Nat) (g : Nat → Nat → Nat) (m : Nat) (v : Value) (bs : List Nat) : Prop where
  bel : Below w.heap.size w wr
  res : Box3 wr w.heap.size (.int .i64 0) (.int .i64 0) (.slice none 0 0) 66
  box : Box3 wr (w.heap.size + 1) (.int .i64 wd) (.int .i64 hi) v 66
  own : OwnF wr (w.heap.size + 2) v bs
  con : bs.map fl = tab m fun i => g (i % wd) (i / wd)

theorem MadeSt.len {w wr : World} {wd hi m : Nat} {g : Nat → Nat → Nat} {v : Value} {bs : List Nat} (h : MadeSt w wr wd hi g m v bs) : bs.length = m := by
  have := congrArg List.length h.con; simpa [tab_length] using this

/-- A round of the inner loop. -/
theorem MadeSt.step {w wr w1 w2 : World} {wd hi x y r : Nat} {g : Nat → Nat → Nat} {v : Value} {bs : List Nat} {T : TypeId} {gg cap : Nat} (h : MadeSt w wr wd hi g (y * wd + x) v bs) (hx : x < wd)
    (hb : Below wr.heap.size wr w1) (hr : r < 4294967296) (hfl : fl r = g x y)
    (hown : w2.ownsRow (w.heap.size + 2) 24 1 (.slice (some ⟨gg, 0, none⟩) (bs.length + 1) cap) (bs.length + 1) (bs.map (Value.float .f32) ++ [.float .f32 r]))
    (hg : (w1.alloc (.cells #[.float .f32 r] T)).grownBy w2 v.ownBlock) (hne : some (w.heap.size + 1) ≠ v.ownBlock) :
    MadeSt w (w2.setCell ⟨w.heap.size + 1, 2, none⟩ (.slice (some ⟨gg, 0, none⟩) (bs.length + 1) cap)) wd hi g (y * wd + (x + 1)) (.slice (some ⟨gg, 0, none⟩) (bs.length + 1) cap) (bs ++ [r]) := by
  have hal : Below w1.heap.size w1 (w1.alloc (.cells #[.float .f32 r] T)) := (Below.refl _ _).alloc (Nat.le_refl _) _
  have hlt := h.box.lt
  have s1 : wr.heap.size ≤ w1.heap.size := hb.size
  have hown' := (World.ownsRow.lt hown gg rfl).1
  have b2 : Below w.heap.size w w2 := ((h.bel.trans (hb.mono h.bel.size)).trans (hal.mono (Nat.le_trans h.bel.size s1))).grown hg (by simp; have := h.bel.size; omega) (fun k hk => by have := (h.own.lt hk).1; omega)
  have hres : some w.heap.size ≠ v.ownBlock := fun e => by have := (h.own.lt e.symm).1; omega
  refine ⟨b2.setCell (by simp) _, ?_, ?_, ⟨?_, ?_⟩, ?_⟩
  · exact (((h.res.below hb).below hal).grown hg hres).grown (grown_setCell _ _ _) (by simp)
  · exact ((((h.box.below hb).below hal).grown hg hne).set2 _)
  · have k := hown.kept (grown_setCell w2 ⟨w.heap.size + 1, 2, none⟩ (.slice (some ⟨gg, 0, none⟩) (bs.length + 1) cap)) (.inr (by simp [Value.ownBlock]; omega))
    simpa using k
  · intro b hb'
    rcases List.mem_append.1 hb' with h1 | h1
    · exact h.own.2 b h1
    · simp at h1; omega
  · rw [List.map_append, h.con, ← Nat.add_assoc, tab_succ]
    congr 1
    simp only [List.map_cons, List.map_nil, hfl]
    have e1 : (y * wd + x) % wd = x := by rw [Nat.mul_comm, Nat.mul_add_mod, Nat.mod_eq_of_lt hx]
    have e2 : (y * wd + x) / wd = y := by rw [Nat.mul_comm, Nat.mul_add_div (by omega), Nat.div_eq_of_lt hx, Nat.add_zero]
    rw [e1, e2]

theorem MadeSt.start (w : World) (wd hi : Nat) (g : Nat → Nat → Nat) :
    MadeSt w ((w.alloc (.cells #[.int .i64 0, .int .i64 0, .slice none 0 0] 66)).alloc (.cells #[.int .i64 wd, .int .i64 hi, .slice none 0 0] 66)) wd hi g 0 (.slice none 0 0) [] := by
  refine ⟨((Below.refl _ _).alloc (Nat.le_refl _) _).alloc (by simp) _, ?_, ?_, OwnF.nil _ _, rfl⟩
  · unfold Box3; rw [heap_alloc_old _ _ (by simp)]; exact heap_alloc_new w _
  · unfold Box3
    have := heap_alloc_new (w.alloc (.cells #[.int .i64 0, .int .i64 0, .slice none 0 0] 66)) (.cells #[.int .i64 wd, .int .i64 hi, .slice none 0 0] 66)
    simpa using this

/-- A struct of two sizes and a slice of numbers of its own, by their table. -/
def MakesPic (w : World) (wd hi : Nat) (g : Nat → Nat → Nat) (e : Ending) (w' : World) : Prop :=
  ∃ a c bs, e = .returned (.agg #[.int .i64 wd, .int .i64 hi, .slice a (List.length bs) c]) ∧ OwnF w' w.heap.size (.slice a (List.length bs) c) bs ∧ bs.map fl = tab (hi * wd) (fun i => g (i % wd) (i / wd)) ∧ Below w.heap.size w w'

theorem made_any (w : World) (wd hi : Nat) (fv : Value) (g : Nat → Nat → Nat) (hw : wd ≤ 24) (hh : hi ≤ 24) (hf : Gives2 w fv wd hi g) :
    Calls Try.prog 102 #[.int .i64 wd, .int .i64 hi, fv] w (MakesPic w wd hi g) := by
  obtain ⟨fid, caps, rfl, hcall, hof⟩ := hf
  obtain ⟨i0, hi0, hz0, hz1, hz2⟩ := info_parts info_f32
  go_enter Try.func102, Try.ntmps102
  go_wp2
  go_loopw [14] (fun v14 wr => ∃ (y : Nat) (v : Value) (bs : List Nat), y ≤ hi ∧ v14 = .int .i64 y ∧ MadeSt w wr wd hi g (y * wd) v bs) (fun v14 _ => hi - (intOf v14).toNat)
  case atStart =>
    refine ⟨0, .slice none 0 0, [], Nat.zero_le _, rfl, ?_⟩
    rw [Nat.zero_mul]; exact MadeSt.start w wd hi g
  case round =>
    obtain ⟨y, v, bs, hy, rfl, hst⟩ := hrel
    by_cases hlt : y < hi
    · go_wp2
      obtain ⟨wo, rfl⟩ : ∃ wo : World, wo = wr := ⟨_, rfl⟩
      go_loopw [18] (fun v18 wr => ∃ (x : Nat) (v : Value) (bs : List Nat), x ≤ wd ∧ v18 = .int .i64 x ∧ MadeSt w wr wd hi g (y * wd + x) v bs) (fun v18 _ => wd - (intOf v18).toNat)
      case atStart => exact ⟨0, v, bs, Nat.zero_le _, rfl, hst⟩
      case round =>
        clear hst v bs
        obtain ⟨x, v, bs, hx, rfl, hst⟩ := hrel
        by_cases hlx : x < wd
        · obtain ⟨c0, c1, c2, f0, f1, f2⟩ := hst.box.cells
          have hown := hst.own
          have hbel := hst.bel
          have hL : bs.length ≤ 600 := by
            have h1 : y * wd ≤ 24 * 24 := Nat.mul_le_mul (by omega) hw
            rw [hst.len]; omega
          have hB := hst.box.lt
          have hne : some (w.heap.size + 1) ≠ v.ownBlock := fun e => by have := (hst.own.lt e.symm).1; omega
          have HS := Lib.hid hst
          clear hst c0 c1 f0 f1
          go_wp2
          have hbox := HS.out.box
          go_region_law (first
              | (refine step_append_lies _ (by rfl) _ _ _ (by rfl) (w.heap.size + 2) 24 i0 _ 1 4 Try.underlying41 hi0 hz0 hz1 hz2 rfl (by omega) v bs.length _ (by rfl) (World.ownsRow.alloc hown1.1 _) ⟨w1.heap.size, 0, none⟩ 1 1 [.float .f32 r] (by rfl) (by rfl) (cell_one_new _ _ _) (by simp [Value.oneCell']) (by omega) (by unfold maxLen; omega) (by omega) (by simp; omega) (w1.heap.size + 1) (by simp) ?_; intro gg cap w2 hown2 hgrow hat hlt2; obtain ⟨q0, q1, q2, g0, g1, g2⟩ := ((hbox1.below ((Below.refl w1.heap.size w1).alloc (Nat.le_refl _) _)).grown hgrow hne).cells)
              | (go_simp; refine (hof x y _ hlx hlt (below_drewN hbel _)).mono ?_; rintro e w1 ⟨r, rfl, hr1, hr2, hb1⟩; have hb2 : Below wr.heap.size wr w1 := ⟨hb1.os, hb1.tape, hb1.output, hb1.size, hb1.block⟩; have hbox1 := hbox.below hb2; have c2' := hbox1.cells.2.2.1; have c4 : ∀ o, (w1.alloc o).cell? ⟨w.heap.size + 1, 2, none⟩ = some v := (fun o => (hbox1.below ((Below.refl w1.heap.size w1).alloc (Nat.le_refl _) o)).cells.2.2.1); have hown1 := hown.below hb2; have hz2' : w.heap.size + 2 ≤ w1.heap.size := (by have := hb2.size; omega)))
          all_goals
            go_wp2
            go_roundw
            case rel => exact ⟨x + 1, _, bs ++ [r], by omega, by go_num, HS.out.step hlx hb2 hr1 hr2 hown2 hgrow hne⟩
            case measure => simp [intOf]; omega
        · have : x = wd := by omega
          subst this
          go_wp2
          go_roundw
          case rel => exact ⟨y + 1, v, bs, by omega, by go_num, by rw [Nat.add_mul, Nat.one_mul]; exact hst⟩
          case measure => simp [intOf]; omega
    · have : y = hi := by omega
      subst this
      obtain ⟨c0, c1, c2, f0, f1, f2⟩ := hst.box.cells
      obtain ⟨d0, d1, d2, e0, e1, e2⟩ := hst.res.cells
      obtain ⟨va, vc, rfl⟩ := hst.own.sl.len
      have HS := Lib.hid hst
      clear hst
      go_wp2
      refine bodyPost_ret (v := .agg #[.int .i64 wd, .int .i64 y, .slice va bs.length vc]) (by simp [results, Try.results102, go_sem, d0, d1, d2]) rfl ?_
      have hst := HS.out
      exact ⟨va, vc, bs, rfl, (((hst.own.set (by simp) _).set (by simp) _).set (by simp) _).mono (by omega), hst.con, ((hst.bel.setCell (by simp) _).setCell (by simp) _).setCell (by simp) _⟩

end Go.Proofs.Ytkhoifgljalfcaa
