/- Wild pictures of the law's bytes; tables of pictures. -/
import Derived.Test.YtkifhajkmgeafaaGen
import Derived.Test.YtkifhajkmgeafaaSame
import Derived.Test.YtkifhajkmgeafaaTurn
namespace Go.Proofs.Ytkifhajkmgeafaa
open Go.RowKit Ieee
set_option maxRecDepth 100000
set_option linter.unusedVariables false
set_option linter.unusedSimpArgs false

/-- A wild picture, nothing told of the source. -/
def WildP (w : World) (e : Ending) (w' : World) : Prop :=
  ∃ (wd hi : Nat) (a : Option Addr) (c : Nat) (bs : List Nat), e = .returned (.agg #[.int .i64 wd, .int .i64 hi, .slice a (List.length bs) c]) ∧ 1 ≤ wd ∧ wd ≤ 6 ∧ 1 ≤ hi ∧ hi ≤ 4 ∧ bs.length = wd * hi ∧ OwnF w' w.heap.size (.slice a (List.length bs) c) bs ∧ Below w.heap.size w w'

theorem fl_zero : fl 0 = 0 := by decide

theorem md1 {x y wd : Nat} (hx : x < wd) : (x + wd * y) % wd = x := by rw [Nat.add_mul_mod_self_left, Nat.mod_eq_of_lt hx]
theorem md2 {x y wd : Nat} (hx : x < wd) : (x + wd * y) / wd = y := by rw [Nat.add_mul_div_left _ _ (by omega), Nat.div_eq_of_lt hx, Nat.zero_add]
theorem tab_at {bs : List Nat} {wd hi : Nat} {F : Nat → Nat} (h : bs.map fl = tab (hi * wd) F) {x y : Nat} (hx : x < wd) (hy : y < hi) : fl (bs.getD (x + wd * y) 0) = F (x + wd * y) := by
  have hlt : x + wd * y < hi * wd := by
    calc x + wd * y < wd + wd * y := by omega
      _ = (y + 1) * wd := by rw [Nat.add_mul, Nat.one_mul, Nat.mul_comm, Nat.add_comm]
      _ ≤ hi * wd := Nat.mul_le_mul_right _ hy
  have hl : bs.length = hi * wd := by have := congrArg List.length h; rwa [List.length_map, tab_length] at this
  have e1 : (bs.map fl).getD (x + wd * y) 0 = fl (bs.getD (x + wd * y) 0) := by
    rw [List.getD_eq_getElem?_getD, List.getElem?_map, List.getD_eq_getElem?_getD, List.getElem?_eq_getElem (by omega)]; rfl
  rw [← e1, h, ← getD_of _ _ (by rw [tab_length]; exact hlt), tab_get]

theorem ix_in {x y wd hi : Nat} (hx : x < wd) (hy : y < hi) : ix x y wd hi = x + wd * y := by unfold ix; rw [cl_nat hx, cl_nat hy]

theorem tab_ix {bs : List Nat} {wd hi : Nat} {F : Nat → Nat} (h : bs.map fl = tab (hi * wd) F) {X Y : Int} (x y : Nat) (hX : X = x) (hY : Y = y) (hx : x < wd) (hy : y < hi) : fl (bs.getD (ix X Y wd hi) 0) = F (x + wd * y) := by
  subst hX; subst hY; rw [ix_in hx hy]; exact tab_at h hx hy

theorem tab_same {bs cs : List Nat} {wd hi : Nat} {F : Nat → Nat} (h : bs.map fl = tab (hi * wd) F) (hc : cs.length = wd * hi) (he : ∀ x y, x < wd → y < hi → F (x + wd * y) = fl (cs.getD (ix x y wd hi) 0)) : bs.map fl = cs.map fl := by
  rw [h]
  apply List.ext_getElem
  · rw [tab_length, List.length_map, hc, Nat.mul_comm]
  · intro i h1 h2
    rw [tab_length] at h1
    have hw : 0 < wd := Nat.pos_of_ne_zero (fun e => by subst e; omega)
    have hx := Nat.mod_lt i hw
    have hy : i / wd < hi := (Nat.div_lt_iff_lt_mul hw).2 h1
    have := he _ _ hx hy
    rw [Nat.mod_add_div] at this
    rw [tab_get, this, ix_in hx hy, Nat.mod_add_div, List.getElem_map, getD_of]

theorem OwnF.pic {w : World} {B : Nat} {a : Option Addr} {c : Nat} {bs : List Nat} {wd hi : Nat} (h : OwnF w B (.slice a bs.length c) bs) (hl : bs.length = wd * hi) (h1 : 1 ≤ wd) (h2 : wd ≤ 24) (h3 : 1 ≤ hi) (h4 : hi ≤ 24) (h5 : wd * hi ≤ 256) : PicOk w wd hi a c bs := ⟨vPic_of h1 h2 h3 h4 h5, h.sl, hl⟩

theorem tab_len {bs : List Nat} {wd hi : Nat} {F : Nat → Nat} (h : bs.map fl = tab (hi * wd) F) : bs.length = wd * hi := by
  have := congrArg List.length h; rwa [List.length_map, tab_length, Nat.mul_comm] at this

theorem alb (w : World) (o : Obj) : Below w.heap.size w (w.alloc o) := (Below.refl _ _).alloc (Nat.le_refl _) _
theorem bnext {B : Nat} {w a b : World} {o : Obj} (h : Below B w a) (hB : B ≤ w.heap.size) (hb : Below (a.alloc o).heap.size (a.alloc o) b) : Below B w b :=
  (h.trans ((alb a o).mono (Nat.le_trans hB h.size))).trans (hb.mono (Nat.le_trans hB (Nat.le_trans h.size (alb a o).size)))
theorem PicOk.next {w w' : World} {o : Obj} {wd hi : Nat} {a : Option Addr} {c : Nat} {bs : List Nat} (h : PicOk w wd hi a c bs) (hb : Below (w.alloc o).heap.size (w.alloc o) w') : PicOk w' wd hi a c bs := (h.below (alb w o)).below hb

/-- A box that holds a right picture. -/
structure PBox (w : World) (b wd hi : Nat) (a : Option Addr) (c : Nat) (bs : List Nat) : Prop where
  box : BoxN w b #[.int .i64 wd, .int .i64 hi, .slice a bs.length c] 41
  ok : PicOk w wd hi a c bs
theorem PBox.below {w w' : World} {b wd hi : Nat} {a : Option Addr} {c : Nat} {bs : List Nat} (h : PBox w b wd hi a c bs) (hb : Below w.heap.size w w') : PBox w' b wd hi a c bs := ⟨h.box.below hb, h.ok.below hb⟩
theorem PBox.more {w : World} {b wd hi : Nat} {a : Option Addr} {c : Nat} {bs : List Nat} (h : PBox w b wd hi a c bs) (o : Obj) : PBox (w.alloc o) b wd hi a c bs := h.below (alb w o)
theorem PBox.next {w w' : World} {o : Obj} {b wd hi : Nat} {a : Option Addr} {c : Nat} {bs : List Nat} (h : PBox w b wd hi a c bs) (hb : Below (w.alloc o).heap.size (w.alloc o) w') : PBox w' b wd hi a c bs := (h.more o).below hb
theorem PBox.new {w w' : World} {wd hi : Nat} {a : Option Addr} {c : Nat} {bs : List Nat} (h : PicOk w wd hi a c bs) (hb : Below (w.alloc (.cells #[.int .i64 wd, .int .i64 hi, .slice a bs.length c] 41)).heap.size (w.alloc (.cells #[.int .i64 wd, .int .i64 hi, .slice a bs.length c] 41)) w') : PBox w' w.heap.size wd hi a c bs := PBox.below ⟨BoxN.last w _ _, h.below (alb w _)⟩ hb
theorem PBox.cells {w : World} {b wd hi : Nat} {a : Option Addr} {c : Nat} {bs : List Nat} (h : PBox w b wd hi a c bs) : w.cell? ⟨b, 0, none⟩ = some (.int .i64 wd) ∧ w.cell? ⟨b, 1, none⟩ = some (.int .i64 hi) ∧ w.cell? ⟨b, 2, none⟩ = some (.slice a bs.length c) := ⟨h.box.cell 0, h.box.cell 1, h.box.cell 2⟩
theorem PBox.cellsA {w : World} {b wd hi : Nat} {a : Option Addr} {c : Nat} {bs : List Nat} (h : PBox w b wd hi a c bs) : (∀ o, (w.alloc o).cell? ⟨b, 0, none⟩ = some (.int .i64 wd)) ∧ (∀ o, (w.alloc o).cell? ⟨b, 1, none⟩ = some (.int .i64 hi)) ∧ (∀ o, (w.alloc o).cell? ⟨b, 2, none⟩ = some (.slice a bs.length c)) := ⟨fun o => (h.more o).cells.1, fun o => (h.more o).cells.2.1, fun o => (h.more o).cells.2.2⟩
theorem OwnF.pic' {w : World} {B : Nat} {a : Option Addr} {c : Nat} {bs : List Nat} {wd hi : Nat} {F : Nat → Nat} (h : OwnF w B (.slice a bs.length c) bs) (ht : bs.map fl = tab (hi * wd) F) (hv : vPic wd hi (wd * hi) = true) : PicOk w wd hi a c bs := ⟨hv, h.sl, tab_len ht⟩
theorem vPic_swap {wd hi : Nat} (h : vPic wd hi (wd * hi) = true) : vPic hi wd (hi * wd) = true := by
  obtain ⟨x1, x2, e1, e2, e3, b1, b2, b3, b4, b5⟩ := vPic_spec h
  have : x1 = wd := by omega
  have : x2 = hi := by omega
  subst_vars; exact vPic_of b3 b4 b1 b2 (by rw [Nat.mul_comm]; exact b5)

theorem four_quarters : ∀ k : Nat, k ≤ 16 → fl (qt k) = qt k ∧ hsum (qt k) (qt k) (qt k) (qt k) = qt k := by
  have h : ∀ k : Fin 17, fl (qt k.val) = qt k.val ∧ hsum (qt k.val) (qt k.val) (qt k.val) (qt k.val) = qt k.val := by decide +kernel
  intro k hk; exact h ⟨k, by omega⟩

theorem mul_le_six {a b : Nat} (h1 : a ≤ 6) (h2 : b ≤ 4) : a * b ≤ 24 := Nat.mul_le_mul h1 h2

end Go.Proofs.Ytkifhajkmgeafaa
