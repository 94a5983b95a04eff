/- impl.made, impl.mapOf with a function value that keeps a cell of its caller's: a counter, a flag. -/
import Derived.Test.YticbgeknledpcaaMp
namespace Go.Proofs.Yticbgeknledpcaa
open Go.RowKit
set_option maxRecDepth 100000
set_option linter.unusedVariables false
set_option linter.unusedSimpArgs false

/-- A function value of two integers that gives numbers, in their order, and writes one cell alone: what it holds ahead of the m-th call is told. -/
def GivesC (w0 : World) (fv : Value) (wd hi cb : Nat) (T : TypeId) (g : Nat → Nat → Nat) (cv : Nat → Value) : Prop :=
  ∃ fid caps, fv = .func (.func fid) #[] caps ∧ (∀ args w, (callFunc fid args).run Try.prog w = .ok (.enter fid args) w) ∧
    ∀ (x y : Nat) (W : World), x < wd → y < hi → w0.grownBy W (some cb) → BoxN W cb #[cv (y * wd + x)] T →
      Calls Try.prog fid (#[.int .i64 x, .int .i64 y] ++ caps) W fun e w' => ∃ r, e = .returned (.float .f32 r) ∧ r < 4294967296 ∧ fl r = g x y ∧ W.grownBy w' (some cb) ∧ BoxN w' cb #[cv (y * wd + x + 1)] T

/-- How far a picture is made. -/
structure MadeStC (w wr : World) (wd hi cb : Nat) (T : TypeId) (g : Nat → Nat → Nat) (cv : Nat → Value) (m : Nat) (v : Value) (bs : List Nat) : Prop where
  bel : w.grownBy wr (some cb)
  cbf : cb < w.heap.size
  cnt : BoxN wr cb #[cv m] T
  res : Box3 wr w.heap.size (.int .i64 0) (.int .i64 0) (.slice none 0 0) 107
  box : Box3 wr (w.heap.size + 1) (.int .i64 wd) (.int .i64 hi) v 107
  own : OwnF wr (w.heap.size + 2) v bs
  con : bs.map fl = tab m fun i => g (i % wd) (i / wd)
theorem MadeStC.len {w wr : World} {wd hi cb m : Nat} {T : TypeId} {g : Nat → Nat → Nat} {cv : Nat → Value} {v : Value} {bs : List Nat} (h : MadeStC w wr wd hi cb T g cv m v bs) : bs.length = m := by
  have := congrArg List.length h.con; simpa [tab_length] using this
theorem grown_new2 {w w1 w2 : World} {sb : Nat} {r : Option Nat} (h : w.grownBy w1 (some sb)) (hg : w1.grownBy w2 r) (hr : ∀ k, r = some k → w.heap.size ≤ k) : w.grownBy w2 (some sb) :=
  ⟨hg.os.trans h.os, hg.tape.trans h.tape, hg.output.trans h.output, Nat.le_trans h.size hg.size, fun i hi hn => (hg.block i (Nat.lt_of_lt_of_le hi h.size) (fun e => by have := hr i e.symm; omega)).trans (h.block i hi hn)⟩

/-- A round of the inner loop. -/
theorem MadeStC.step {w wr w1 w2 : World} {wd hi cb x y r : Nat} {TT : TypeId} {g : Nat → Nat → Nat} {cv : Nat → Value} {v : Value} {bs : List Nat} {T : TypeId} {gg cap : Nat} (h : MadeStC w wr wd hi cb TT g cv (y * wd + x) v bs) (hx : x < wd)
    (hb : wr.grownBy w1 (some cb)) (hc : BoxN w1 cb #[cv (y * wd + x + 1)] TT) (hr : r < 4294967296) (hfl : fl r = g x y)
    (hown : w2.ownsRow (w.heap.size + 2) 35 1 (.slice (some ⟨gg, 0, none⟩) (bs.length + 1) cap) (bs.length + 1) (bs.map (Value.float .f32) ++ [.float .f32 r]))
    (hg : (w1.alloc (.cells #[.float .f32 r] T)).grownBy w2 v.ownBlock) (hne : some (w.heap.size + 1) ≠ v.ownBlock) :
    MadeStC w (w2.setCell ⟨w.heap.size + 1, 2, none⟩ (.slice (some ⟨gg, 0, none⟩) (bs.length + 1) cap)) wd hi cb TT g cv (y * wd + (x + 1)) (.slice (some ⟨gg, 0, none⟩) (bs.length + 1) cap) (bs ++ [r]) := by
  have hal : Below w1.heap.size w1 (w1.alloc (.cells #[.float .f32 r] T)) := (Below.refl _ _).alloc (Nat.le_refl _) _
  have hlt := h.box.lt
  have hcb := h.cbf
  have s0 := h.bel.size
  have s1 : wr.heap.size ≤ w1.heap.size := hb.size
  have hown' := (World.ownsRow.lt hown gg rfl).1
  have b1 : w.grownBy (w1.alloc (.cells #[.float .f32 r] T)) (some cb) := grown_trans (grown_trans h.bel hb) (grown_below hal _)
  have b2 : w.grownBy w2 (some cb) := grown_new2 b1 hg (fun k hk => by have := (h.own.lt hk).1; omega)
  have hres : some w.heap.size ≠ v.ownBlock := fun e => by have := (h.own.lt e.symm).1; omega
  have hcnt : some cb ≠ v.ownBlock := fun e => by have := (h.own.lt e.symm).1; omega
  have hn1 : some w.heap.size ≠ some cb := by simp; omega
  have hn2 : some (w.heap.size + 1) ≠ some cb := by simp; omega
  refine ⟨grown_new2 b2 (grown_setCell _ _ _) (fun k hk => by injection hk with e; simp at e; omega), hcb, ?_, ?_, ?_, ⟨?_, ?_⟩, ?_⟩
  · exact ((hc.below hal).grown hg hcnt).grown (grown_setCell _ _ _) (by simp; omega)
  · exact (((h.res.grown hb hn1).below hal).grown hg hres).grown (grown_setCell _ _ _) (by simp)
  · exact ((((h.box.grown hb hn2).below hal).grown hg hne).set2 _)
  · have k := hown.kept (grown_setCell w2 ⟨w.heap.size + 1, 2, none⟩ (.slice (some ⟨gg, 0, none⟩) (bs.length + 1) cap)) (.inr (by simp [Value.ownBlock]; omega))
    simpa using k
  · intro b hb'
    rcases List.mem_append.1 hb' with h1 | h1
    · exact h.own.2 b h1
    · simp at h1; omega
  · rw [List.map_append, h.con, ← Nat.add_assoc, tab_succ]
    congr 1
    simp only [List.map_cons, List.map_nil, hfl]
    have e1 : (y * wd + x) % wd = x := by rw [Nat.mul_comm, Nat.mul_add_mod, Nat.mod_eq_of_lt hx]
    have e2 : (y * wd + x) / wd = y := by rw [Nat.mul_comm, Nat.mul_add_div (by omega), Nat.div_eq_of_lt hx, Nat.add_zero]
    rw [e1, e2]

theorem MadeStC.start (w : World) (wd hi cb : Nat) (T : TypeId) (g : Nat → Nat → Nat) (cv : Nat → Value) (h : BoxN w cb #[cv 0] T) :
    MadeStC w ((w.alloc (.cells #[.int .i64 0, .int .i64 0, .slice none 0 0] 107)).alloc (.cells #[.int .i64 wd, .int .i64 hi, .slice none 0 0] 107)) wd hi cb T g cv 0 (.slice none 0 0) [] := by
  obtain ⟨k1, k2, k3, k4, k5⟩ := MadeSt.start w wd hi g
  exact ⟨grown_below k1 _, h.lt, h.below k1, k2, k3, k4, k5⟩

/-- A struct of two sizes and a slice of numbers of its own, by their table; and the cell as the last call left it. -/
def MakesPicC (w : World) (wd hi cb : Nat) (T : TypeId) (g : Nat → Nat → Nat) (cv : Nat → Value) (e : Ending) (w' : World) : Prop :=
  ∃ a c bs, e = .returned (.agg #[.int .i64 wd, .int .i64 hi, .slice a (List.length bs) c]) ∧ OwnF w' w.heap.size (.slice a (List.length bs) c) bs ∧ bs.map fl = tab (hi * wd) (fun i => g (i % wd) (i / wd)) ∧ w.grownBy w' (some cb) ∧ BoxN w' cb #[cv (hi * wd)] T

theorem made_c (w : World) (wd hi cb : Nat) (T : TypeId) (fv : Value) (g : Nat → Nat → Nat) (cv : Nat → Value) (hw : wd ≤ 24) (hh : hi ≤ 24) (hf : GivesC w fv wd hi cb T g cv) (hc0 : BoxN w cb #[cv 0] T) :
    Calls Try.prog 88 #[.int .i64 wd, .int .i64 hi, fv] w (MakesPicC w wd hi cb T g cv) := by
  obtain ⟨fid, caps, rfl, hcall, hof⟩ := hf
  obtain ⟨i0, hi0, hz0, hz1, hz2⟩ := info_parts info_f32
  go_enter Try.func88, Try.ntmps88
  go_wp2
  go_loopw [14] (fun v14 wr => ∃ (y : Nat) (v : Value) (bs : List Nat), y ≤ hi ∧ v14 = .int .i64 y ∧ MadeStC w wr wd hi cb T g cv (y * wd) v bs) (fun v14 _ => hi - (intOf v14).toNat)
  case atStart =>
    refine ⟨0, .slice none 0 0, [], Nat.zero_le _, rfl, ?_⟩
    rw [Nat.zero_mul]; exact MadeStC.start w wd hi cb T g cv hc0
  case round =>
    obtain ⟨y, v, bs, hy, rfl, hst⟩ := hrel
    by_cases hlt : y < hi
    · go_wp2
      obtain ⟨wo, rfl⟩ : ∃ wo : World, wo = wr := ⟨_, rfl⟩
      go_loopw [18] (fun v18 wr => ∃ (x : Nat) (v : Value) (bs : List Nat), x ≤ wd ∧ v18 = .int .i64 x ∧ MadeStC w wr wd hi cb T g cv (y * wd + x) v bs) (fun v18 _ => wd - (intOf v18).toNat)
      case atStart => exact ⟨0, v, bs, Nat.zero_le _, rfl, hst⟩
      case round =>
        clear hst v bs
        obtain ⟨x, v, bs, hx, rfl, hst⟩ := hrel
        by_cases hlx : x < wd
        · obtain ⟨c0, c1, c2, f0, f1, f2⟩ := hst.box.cells
          have hown := hst.own
          have hbel := hst.bel
          have hcnt := hst.cnt
          have hcbf := hst.cbf
          have hL : bs.length ≤ 600 := by
            have h1 : y * wd ≤ 24 * 24 := Nat.mul_le_mul (by omega) hw
            rw [hst.len]; omega
          have hB := hst.box.lt
          have hne : some (w.heap.size + 1) ≠ v.ownBlock := fun e => by have := (hst.own.lt e.symm).1; omega
          have hfar : v.ownBlock = none ∨ v.ownBlock ≠ some cb := by
            cases hv : v.ownBlock with
            | none => exact .inl rfl
            | some k => exact .inr (fun e => by injection e with e; have := (hst.own.lt hv).1; omega)
          have HS := Lib.hid hst
          clear hst c0 c1 f0 f1
          go_wp2
          have hbox := HS.out.box
          go_region_law (first
              | (refine step_append_lies _ (by rfl) _ _ _ (by rfl) (w.heap.size + 2) 35 i0 _ 1 4 Try.underlying24 hi0 hz0 hz1 hz2 rfl (by omega) v bs.length _ (by rfl) (World.ownsRow.alloc hown1.1 _) ⟨w1.heap.size, 0, none⟩ 1 1 [.float .f32 r] (by rfl) (by rfl) (cell_one_new _ _ _) (by simp [Value.oneCell']) (by omega) (by unfold maxLen; omega) (by omega) (by simp; omega) (w1.heap.size + 1) (by simp) ?_; intro gg cap w2 hown2 hgrow hat hlt2; obtain ⟨q0, q1, q2, g0, g1, g2⟩ := ((hbox1.below ((Below.refl w1.heap.size w1).alloc (Nat.le_refl _) _)).grown hgrow hne).cells)
              | (go_simp; refine (hof x y _ hlx hlt (grown_trans hbel (grown_drewN _ 1 _)) (by exact hcnt)).mono ?_; rintro e w1 ⟨r, rfl, hr1, hr2, hb1, hc1⟩; have hb2 : wr.grownBy w1 (some cb) := ⟨hb1.os, hb1.tape, hb1.output, hb1.size, hb1.block⟩; have hbox1 := hbox.grown hb2 (by simp; omega); have c2' := hbox1.cells.2.2.1; have c4 : ∀ o, (w1.alloc o).cell? ⟨w.heap.size + 1, 2, none⟩ = some v := (fun o => (hbox1.below ((Below.refl w1.heap.size w1).alloc (Nat.le_refl _) o)).cells.2.2.1); have hown1 := hown.grown hb2 hfar; have hz2' : w.heap.size + 2 ≤ w1.heap.size := (by have := hb2.size; omega)))
          all_goals
            go_wp2
            go_roundw
            case rel => exact ⟨x + 1, _, bs ++ [r], by omega, by go_num, HS.out.step hlx hb2 hc1 hr1 hr2 hown2 hgrow hne⟩
            case measure => simp [intOf]; omega
        · have : x = wd := by omega
          subst this
          go_wp2
          go_roundw
          case rel => exact ⟨y + 1, v, bs, by omega, by go_num, by rw [Nat.add_mul, Nat.one_mul]; exact hst⟩
          case measure => simp [intOf]; omega
    · have : y = hi := by omega
      subst this
      obtain ⟨c0, c1, c2, f0, f1, f2⟩ := hst.box.cells
      obtain ⟨d0, d1, d2, e0, e1, e2⟩ := hst.res.cells
      obtain ⟨va, vc, rfl⟩ := hst.own.sl.len
      have HS := Lib.hid hst
      clear hst
      go_wp2
      refine bodyPost_ret (v := .agg #[.int .i64 wd, .int .i64 y, .slice va bs.length vc]) (by simp [results, Try.results88, go_sem, d0, d1, d2]) rfl ?_
      have hst := HS.out
      exact ⟨va, vc, bs, rfl, (((hst.own.set (by simp) _).set (by simp) _).set (by simp) _).mono (by omega), hst.con, grown_new2 (grown_new2 (grown_new2 hst.bel (grown_setCell _ _ _) (fun k hk => by injection hk with e; simp at e; omega)) (grown_setCell _ _ _) (fun k hk => by injection hk with e; simp at e; omega)) (grown_setCell _ _ _) (fun k hk => by injection hk with e; simp at e; omega), ((hst.cnt.grown (grown_setCell _ _ _) (by have := hst.cbf; simp; omega)).grown (grown_setCell _ _ _) (by have := hst.cbf; simp; omega)).grown (grown_setCell _ _ _) (by have := hst.cbf; simp; omega)⟩

end Go.Proofs.Yticbgeknledpcaa
