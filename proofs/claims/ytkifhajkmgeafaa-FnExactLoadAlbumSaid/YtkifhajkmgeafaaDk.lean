/- Copies of slices of numbers, flat maps, desks: the exact laws' functions on pictures, maps, desks. -/
import Derived.Test.YtkifhajkmgeafaaEx
import Derived.Lib.BufferMore
namespace Go.Proofs.Ytkifhajkmgeafaa
open Go.RowKit Ieee
set_option maxRecDepth 100000
set_option linter.unusedVariables false
set_option linter.unusedSimpArgs false
set_option maxHeartbeats 1000000

theorem info_f32d : (Try.prog.info? 97).map (fun i => (i.zero, i.size, i.bytes)) = some (some (.float .f32 0), 1, 4) := by kernel_rfl

theorem bcell2 {W w1 : World} (hb : Below W.heap.size W w1) : (∀ b o, b < W.heap.size → w1.cell? ⟨b, o, none⟩ = W.cell? ⟨b, o, none⟩) ∧ (∀ b o, b < W.heap.size → w1.frozen? ⟨b, o, none⟩ = W.frozen? ⟨b, o, none⟩) :=
  ⟨fun b o h => hb.cell (p := ⟨b, o, none⟩) h, fun b o h => hb.frozen (p := ⟨b, o, none⟩) h⟩

/-- A slice of numbers made anew. -/
def MakesF32s (w : World) (bs : List Nat) (e : Ending) (w' : World) : Prop := ∃ a c, e = .returned (.slice a bs.length c) ∧ OwnF w' w.heap.size (.slice a bs.length c) bs ∧ Below w.heap.size w w'

theorem news_of {w : World} {b off cap n : Nat} {bs : List Nat} (h : SlF w (.slice (some ⟨b, off, none⟩) n cap) bs) (o : Obj) : ∀ j u, (bs.map (Value.float .f32))[j]? = some u → (w.alloc o).cell? ((⟨b, off, none⟩ : Addr).add j) = some u := by
  intro j u hu
  have hb := SlF.below h ((Below.refl w.heap.size w).alloc (Nat.le_refl _) o)
  rw [List.getElem?_map] at hu
  cases hj : bs[j]? with
  | none => rw [hj] at hu; simp at hu
  | some x =>
    rw [hj] at hu
    have hlt : j < bs.length := by
      rcases Nat.lt_or_ge j bs.length with h1 | h1
      · exact h1
      · rw [List.getElem?_eq_none h1] at hj; cases hj
    have := (cellAt2 hb j hlt).1
    have hadd : (⟨b, off, none⟩ : Addr).add j = ⟨b, off + j, none⟩ := by unfold Addr.add; split <;> simp_all
    rw [hadd, this]
    rw [List.getD_eq_getElem?_getD, hj]
    simpa using hu

theorem grown_of_alloc {w w2 : World} {o : Obj} (h : (w.alloc o).grownBy w2 (some w.heap.size)) : Below w.heap.size w w2 :=
  ((Below.refl w.heap.size w).alloc (Nat.le_refl _) o).grown h (by simp) (fun k hk => by injection hk with e; omega)

theorem ownF_lit {w w2 : World} {gg cap : Nat} {bs : List Nat} (h : w2.ownsRow w.heap.size 97 1 (.slice (some ⟨gg, 0, none⟩) (0 + bs.length) cap) (0 + bs.length) ([] ++ bs.map (Value.float .f32))) (hp : ∀ b ∈ bs, b < 4294967296) : OwnF w2 w.heap.size (.slice (some ⟨gg, 0, none⟩) bs.length cap) bs := by
  refine ⟨?_, hp⟩
  simpa using h

theorem cloneF_any (w : World) (v : Value) (bs : List Nat) (h : SlF w v bs) (h0 : bs ≠ []) (hl : bs.length ≤ 1048576) :
    Calls Try.prog 69 #[v] w (MakesF32s w bs) := by
  obtain ⟨i0, hi0, hz0, hz1, hz2⟩ := info_parts info_f32d
  obtain ⟨b, off, cap, rfl, hlt, _⟩ := h.form h0
  have hpos : 0 < bs.length := Nat.pos_of_ne_zero (fun e => h0 (List.length_eq_zero_iff.1 e))
  have hn := news_of h (.cells #[] 97)
  have hp := h.2
  clear h h0
  have hnil : ∀ W, (binOp .eql 39 (.slice (some ⟨b, off, none⟩) bs.length cap) (.slice none 0 0)).run Try.prog W = .ok (.bool false) W := fun W => Lib.run_eql_slice_some_nil W _ _ _ Try.underlying39
  go_enter Try.func69, Try.ntmps69
  go_wp2_with (at_builtin; refine wpList_append_lies _ (by rfl) _ _ _ (by rfl) w.heap.size 97 i0 _ 1 4 Try.underlying39 hi0 hz0 hz1 hz2 rfl (by omega) (.slice (some ⟨w.heap.size, 0, none⟩) 0 0) 0 [] (by rfl) (World.ownsRow_lit w #[] 0 (Nat.le_refl _) (Nat.zero_le _) rfl) ⟨b, off, none⟩ bs.length cap (bs.map (Value.float .f32)) (by rfl) (by simp) hn (by simp [Value.oneCell']) hpos (by unfold maxLen; omega) (by omega) (by simp) (w.heap.size + 1) (by simp) ?_; intro gg cap' w2 hown2 hgrow hat hlt2)
  go_wp2
  go_ret
  exact ⟨_, cap', by simp, ownF_lit hown2 hp, grown_of_alloc hgrow⟩

/-- A picture (or a map) made anew. -/
def MakesRow (w : World) (wd hi : Int) (bs : List Nat) (e : Ending) (w' : World) : Prop := ∃ a c, e = .returned (.agg #[.int .i64 wd, .int .i64 hi, .slice a bs.length c]) ∧ OwnF w' w.heap.size (.slice a bs.length c) bs ∧ Below w.heap.size w w'

theorem below_two2 (w : World) (o1 o2 : Obj) : Below w.heap.size w ((w.alloc o1).alloc o2) := ((Below.refl _ _).alloc (Nat.le_refl _) _).alloc (by simp) _

theorem cloneP_any (w : World) (wd hi : Int) (a : Option Addr) (c : Nat) (bs : List Nat) (h : SlF w (.slice a bs.length c) bs) (h0 : bs ≠ []) (hl : bs.length ≤ 1048576) :
    Calls Try.prog 44 #[.agg #[.int .i64 wd, .int .i64 hi, .slice a bs.length c]] w (MakesRow w wd hi bs) := by
  have hb0 := below_two2 w (.cells #[.int .i64 wd, .int .i64 hi, .slice a bs.length c] 41) (.cells #[.int .i64 0, .int .i64 0, .slice none 0 0] 41)
  have hC := cloneF_any _ _ bs ((h.below hb0).1.drewN 1 |> fun k => (⟨k, h.2⟩ : SlF _ _ bs)) h0 hl
  go_enter Try.func44, Try.ntmps44
  go_wp2_with fail
  go_region_law (first
    | (go_simp; refine hC.mono ?_; rintro e w2 ⟨a2, c2, rfl, hown, hb2⟩; have hbb := hb0.trans ((below_drewN (Below.refl _ _) 1).trans (hb2.mono hb0.size)); obtain ⟨hc2, hf2⟩ := bcell2 hb2; have hz2 : w.heap.size + 1 < w2.heap.size := (by have := hb2.size; simp at this; omega)))
  all_goals
    go_wp2
    refine bodyPost_ret (v := .agg #[.int .i64 wd, .int .i64 hi, .slice a2 bs.length c2]) (by simp [results, Try.results44, go_sem, hc2, hz2]) rfl ?_
    exact ⟨a2, c2, rfl, (((hown.set (by first | omega | (simp; done) | (simp; omega)) _).set (by first | omega | (simp; done) | (simp; omega)) _).set (by first | omega | (simp; done) | (simp; omega)) _).mono (by first | omega | (simp; done) | (simp; omega)), ((hbb.setCell (by first | omega | (simp; done) | (simp; omega)) _).setCell (by first | omega | (simp; done) | (simp; omega)) _).setCell (by first | omega | (simp; done) | (simp; omega)) _⟩

theorem ownP_any (w : World) (pb : Nat) (wd hi : Int) (a : Option Addr) (c : Nat) (bs : List Nat) (hx : Box3 w pb (.int .i64 wd) (.int .i64 hi) (.slice a bs.length c) 41) (h : SlF w (.slice a bs.length c) bs) (h0 : bs ≠ []) (hl : bs.length ≤ 1048576) :
    Calls Try.prog 56 #[.pointer (some ⟨pb, 0, none⟩)] w (MakesRow w wd hi bs) := by
  obtain ⟨i0, hi0, hz0, hz1, hz2⟩ := info_parts info_f32d
  obtain ⟨b, off, cap, ha, hlt, _⟩ := h.form h0
  simp only [Value.slice.injEq, true_and] at ha
  obtain ⟨rfl, rfl⟩ := ha
  have hpos : 0 < bs.length := Nat.pos_of_ne_zero (fun e => h0 (List.length_eq_zero_iff.1 e))
  have ha0 : Below w.heap.size w (w.alloc (.cells #[.int .i64 0, .int .i64 0, .slice none 0 0] 41)) := (Below.refl _ _).alloc (Nat.le_refl _) _
  have hn : ∀ j u, (bs.map (Value.float .f32))[j]? = some u → ((w.alloc (.cells #[.int .i64 0, .int .i64 0, .slice none 0 0] 41)).alloc (.cells #[] 97)).drew.cell? ((⟨b, off, none⟩ : Addr).add j) = some u := news_of (h.below ha0) (.cells #[] 97)
  have hp := h.2
  have hx1 := hx.below ha0
  have hpb := hx.lt
  have hr1 : Box3 (w.alloc (.cells #[.int .i64 0, .int .i64 0, .slice none 0 0] 41)) w.heap.size (.int .i64 0) (.int .i64 0) (.slice none 0 0) 41 := heap_alloc_new w _
  obtain ⟨x0, x1, x2, _, _, _⟩ := hx1.cells
  have z0 : ∀ o, ((w.alloc (.cells #[.int .i64 0, .int .i64 0, .slice none 0 0] 41)).alloc o).cell? ⟨pb, 0, none⟩ = some (.int .i64 wd) := fun o => (hx1.below ((Below.refl _ _).alloc (Nat.le_refl _) o)).cells.1
  have z1 : ∀ o, ((w.alloc (.cells #[.int .i64 0, .int .i64 0, .slice none 0 0] 41)).alloc o).cell? ⟨pb, 1, none⟩ = some (.int .i64 hi) := fun o => (hx1.below ((Below.refl _ _).alloc (Nat.le_refl _) o)).cells.2.1
  have z2 : ∀ o, ((w.alloc (.cells #[.int .i64 0, .int .i64 0, .slice none 0 0] 41)).alloc o).cell? ⟨pb, 2, none⟩ = some (.slice (some ⟨b, off, none⟩) bs.length c) := fun o => (hx1.below ((Below.refl _ _).alloc (Nat.le_refl _) o)).cells.2.2.1
  have hown0 : ((w.alloc (.cells #[.int .i64 0, .int .i64 0, .slice none 0 0] 41)).alloc (.cells #[] 97)).drew.ownsRow (w.heap.size + 1) 97 1 (.slice (some ⟨w.heap.size + 1, 0, none⟩) 0 0) 0 [] := by
    have k := World.ownsRow_lit (base := w.heap.size + 1) (size := 1) (e := 97) (w.alloc (.cells #[.int .i64 0, .int .i64 0, .slice none 0 0] 41)) #[] 0 (by simp) (Nat.zero_le _) rfl
    have e : (w.alloc (.cells #[.int .i64 0, .int .i64 0, .slice none 0 0] 41)).heap.size = w.heap.size + 1 := by simp
    rw [e] at k
    exact k
  have hX : ∀ w2, ((w.alloc (.cells #[.int .i64 0, .int .i64 0, .slice none 0 0] 41)).alloc (.cells #[] 97)).drew.grownBy w2 (some (w.heap.size + 1)) → Box3 w2 pb (.int .i64 wd) (.int .i64 hi) (.slice (some ⟨b, off, none⟩) bs.length c) 41 ∧ Box3 w2 w.heap.size (.int .i64 0) (.int .i64 0) (.slice none 0 0) 41 ∧ Below w.heap.size w w2 := by
    intro w2 hgrow
    refine ⟨?_, ?_, ?_⟩
    · have hh := hgrow.block pb (by simp; omega) (by simp; omega)
      unfold Box3; rw [hh]
      exact hx1.below (below_drewN ((Below.refl _ _).alloc (Nat.le_refl _) (.cells #[] 97)) 1)
    · have hh := hgrow.block w.heap.size (by simp; omega) (by simp)
      unfold Box3; rw [hh]
      exact hr1.below (below_drewN ((Below.refl _ _).alloc (Nat.le_refl _) (.cells #[] 97)) 1)
    · have hb2 := (below_drewN (below_two2 w (.cells #[.int .i64 0, .int .i64 0, .slice none 0 0] 41) (.cells #[] 97)) 1)
      exact hb2.grown hgrow (by simp; omega) (fun k hk => by injection hk with e; omega)
  clear h h0 hx hx1 hr1
  go_enter Try.func56, Try.ntmps56
  go_wp2_with fail
  go_region_law (first
    | (refine step_append_lies _ (by rfl) _ _ _ (by rfl) (w.heap.size + 1) 97 i0 _ 1 4 Try.underlying39 hi0 hz0 hz1 hz2 rfl (by omega) (.slice (some ⟨w.heap.size + 1, 0, none⟩) 0 0) 0 [] (by rfl) hown0 ⟨b, off, none⟩ bs.length _ (bs.map (Value.float .f32)) (by rfl) (by simp) hn (by simp [Value.oneCell']) hpos (by unfold maxLen; omega) (by omega) (by simp) (w.heap.size + 2) (by simp) ?_; intro gg cap' w2 hown2 hgrow hat hlt2; obtain ⟨kX, kR, kB⟩ := hX w2 hgrow; obtain ⟨q0, q1, q2, _, _, _⟩ := kX.cells; obtain ⟨r0, r1, r2, g0, g1, g2⟩ := kR.cells)
    | fail)
  all_goals
    clear hX hn hown0 q0 q1 q2 x0 x1 x2 z0 z1 z2
    have hown3 : OwnF w2 (w.heap.size + 1) (.slice (some ⟨gg, 0, none⟩) bs.length cap') bs := ⟨by simpa using hown2, hp⟩
    clear hown2
    go_wp2
    refine bodyPost_ret (v := .agg #[.int .i64 wd, .int .i64 hi, .slice (some ⟨gg, 0, none⟩) bs.length cap']) (by simp [results, Try.results56, go_sem, r0, r1, r2]) rfl ?_
    exact ⟨_, cap', rfl, (((hown3.set (by simp) _).set (by simp) _).set (by simp) _).mono (by omega), ((kB.setCell (by simp) _).setCell (by simp) _).setCell (by simp) _⟩

end Go.Proofs.Ytkifhajkmgeafaa
