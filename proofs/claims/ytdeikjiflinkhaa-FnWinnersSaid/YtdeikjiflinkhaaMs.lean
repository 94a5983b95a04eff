/- Ranges and means of maps; maps that are mirrored, rounded, subtracted. -/
import Derived.Test.YtdeikjiflinkhaaMr
import Derived.Test.YtdeikjiflinkhaaFm
namespace Go.Proofs.Ytdeikjiflinkhaa
open Go.RowKit
set_option maxRecDepth 100000
set_option linter.unusedVariables false
set_option linter.unusedSimpArgs false

theorem vPic_mul {wd hi N : Nat} (h : vPic wd hi N = true) : N = wd * hi ∧ 1 ≤ wd ∧ wd ≤ 24 ∧ 1 ≤ hi ∧ hi ≤ 24 ∧ N ≤ 256 ∧ 1 ≤ N := by
  obtain ⟨x1, x2, e1, e2, e3, b1, b2, b3, b4, b5⟩ := vPic_spec h
  have h1 : x1 = wd := by omega
  have h2 : x2 = hi := by omega
  subst h1 h2
  exact ⟨e3, b1, b2, b3, b4, by omega, by rw [e3]; exact Nat.mul_pos b1 b3⟩
theorem xy_lt {wd hi x y : Nat} (hx : x < wd) (hy : y < hi) : x + wd * y < wd * hi := by
  calc x + wd * y < wd + wd * y := by omega
    _ = wd * (y + 1) := by rw [Nat.mul_add, Nat.mul_one, Nat.add_comm]
    _ ≤ wd * hi := Nat.mul_le_mul_left _ hy
theorem xy_mod {x y wd : Nat} (hx : x < wd) : (x + wd * y) % wd = x := by rw [Nat.add_mul_mod_self_left, Nat.mod_eq_of_lt hx]
theorem xy_div {x y wd : Nat} (hx : x < wd) : (x + wd * y) / wd = y := by rw [Nat.add_mul_div_left _ _ (by omega), Nat.div_eq_of_lt hx, Nat.zero_add]
theorem MQ.pic {w W : World} {q c N pb wd hi : Nat} {ks : List Int} (h : MQ w q c N ks) (hb : Below w.heap.size w W) (hx : Box3 W pb (.int .i64 wd) (.int .i64 hi) (.slice (some ⟨q, 0, none⟩) N c) 40) (hN : N = wd * hi) : PicAt W pb wd hi (.slice (some ⟨q, 0, none⟩) N c) (ks.map (fq 2)) 40 :=
  ⟨hx, (h.below hb).sl, by rw [List.length_map, h.len, hN]⟩
theorem mat_q (W : World) (pb wd hi : Nat) (v : Value) (ks : List Int) (x y : Nat) (X Y : Int) (hX : X = x) (hY : Y = y) (hx : x < wd) (hy : y < hi) (hw2 : wd ≤ 1000) (hh2 : hi ≤ 1000) (h : PicAt W pb wd hi v (ks.map (fq 2)) 40) :
    Calls Try.prog 51 #[.pointer (some ⟨pb, 0, none⟩), .int .i64 X, .int .i64 Y] W fun e w' => e = .returned (.float .f32 (fq 2 (ks.getD (x + wd * y) 0))) ∧ ∃ n, w' = W.drewN n := by
  have e : (ks.map (fq 2)).getD (x + wd * y) 0 = fq 2 (ks.getD (x + wd * y) 0) := by
    have hl := h.len
    rw [List.length_map] at hl
    rw [List.getD_eq_getElem?_getD, List.getD_eq_getElem?_getD, List.getElem?_map, List.getElem?_eq_getElem (by rw [hl]; exact xy_lt hx hy)]; rfl
  rw [← e]
  exact mat_any W pb wd hi v _ x y X Y hX hY hx hy hw2 hh2 h
theorem PicAt.drew2 {W : World} {pb wd hi : Nat} {v : Value} {bs : List Nat} {T : TypeId} (h : PicAt W pb wd hi v bs T) (n : Nat) : PicAt (W.drewN n) pb wd hi v bs T := ⟨h.box, ⟨h.sl.1.drewN n, h.sl.2⟩, h.len⟩

theorem bcell2 {W w1 : World} (hb : Below W.heap.size W w1) : (∀ b o, b < W.heap.size → w1.cell? ⟨b, o, none⟩ = W.cell? ⟨b, o, none⟩) ∧ (∀ b o, b < W.heap.size → w1.frozen? ⟨b, o, none⟩ = W.frozen? ⟨b, o, none⟩) :=
  ⟨fun b o h => hb.cell (p := ⟨b, o, none⟩) h, fun b o h => hb.frozen (p := ⟨b, o, none⟩) h⟩
theorem MQ.set {W : World} {q c N ob i : Nat} {ks : List Int} (h : MQ W q c N ks) (hne : ob ≠ q) (v : Value) : MQ (W.setCell ⟨ob, i, none⟩ v) q c N ks :=
  ⟨⟨h.sl.1.grown (grown_setCell _ _ _) (.inr (by simpa [Value.ownBlock] using (Ne.symm hne))), h.sl.2⟩, by simpa using h.qlt, h.bd⟩

/-- A call that makes a map of one map: what is common. -/
theorem boxm (w : World) (wd hi N q c : Nat) (ks : List Int) (h : MQ w q c N ks) (hN : N = wd * hi) :
    PicAt (w.alloc (.cells #[.int .i64 wd, .int .i64 hi, .slice (some ⟨q, 0, none⟩) N c] 40)) w.heap.size wd hi (.slice (some ⟨q, 0, none⟩) N c) (ks.map (fq 2)) 40 :=
  h.pic (alb1 w _) (box_last w _ _ _ _) hN

/-- The sum and the number of the values that are none of holes. -/
def mnS (o : Int × Nat) (k : Int) : Int × Nat := if k < 0 then o else (o.1 + k, o.2 + 1)
def mnF (ks : List Int) : Int × Nat := ks.foldl mnS (0, 0)
theorem mn_bd (ks : List Int) (hb : ∀ k ∈ ks, k.natAbs ≤ 1000) : ∀ o : Int × Nat, 0 ≤ o.1 → o.1 ≤ 1000 * o.2 → 0 ≤ (ks.foldl mnS o).1 ∧ (ks.foldl mnS o).1 ≤ 1000 * (ks.foldl mnS o).2 ∧ (ks.foldl mnS o).2 ≤ o.2 + ks.length := by
  induction ks with
  | nil => intro o h1 h2; exact ⟨h1, h2, by simp⟩
  | cons a l ih =>
    intro o h1 h2
    have ha := hb a (by simp)
    rw [List.foldl_cons, List.length_cons]
    have := ih (fun k hk => hb k (by simp [hk])) (mnS o a) (by unfold mnS; split <;> first | omega | (dsimp only; omega)) (by unfold mnS; split <;> first | omega | (dsimp only; omega))
    have h3 : (mnS o a).2 ≤ o.2 + 1 := by unfold mnS; split <;> first | omega | (dsimp only; omega)
    omega

/-- What the mean of a list of quarters gives. -/
def MeanQ (ks : List Int) (W : World) (e : Ending) (w' : World) : Prop :=
  W = w' ∧ (((mnF ks).2 = 0 ∧ e = .returned (.tuple #[.float .f32 0, .bool false])) ∨ ((mnF ks).2 ≠ 0 ∧ ∃ r, floatBits .quo .f32 (fq 2 (mnF ks).1) (fq 0 ((mnF ks).2 : Nat)) = some r ∧ e = .returned (.tuple #[.float .f32 r, .bool true])))

/-- A function value that reads maps of quarters and tells quarters. -/
theorem gives_q {fid : FuncId} {caps : Array Value} {W0 : World} {wd hi : Nat} (F : Nat → Int) (hb : ∀ x y, x < wd → y < hi → (F (x + wd * y)).natAbs ≤ 16777216)
    (hcall : ∀ args w, (callFunc fid args).run Try.prog w = .ok (.enter fid args) w)
    (hrun : ∀ (x y : Nat) (W : World), x < wd → y < hi → Below W0.heap.size W0 W → Calls Try.prog fid (#[.int .i64 x, .int .i64 y] ++ caps) W fun e w' => e = .returned (.float .f32 (fq 2 (F (x + wd * y)))) ∧ ∃ n, w' = W.drewN n) :
    Gives2 W0 (.func (.func fid) #[] caps) wd hi (fun x y => fq 2 (F (x + wd * y))) := by
  refine ⟨fid, caps, rfl, hcall, fun x y W hx hy hbW => ?_⟩
  refine (hrun x y W hx hy hbW).mono ?_
  rintro e w' ⟨rfl, n, rfl⟩
  exact ⟨_, rfl, fq_lt (hb x y hx hy), fl_fq (hb x y hx hy), below_drewN (Below.refl _ _) n⟩
theorem drewN_drewN (W : World) (n m : Nat) : ∃ k, (W.drewN n).drewN m = W.drewN k := ⟨n + m, by simp [World.drewN, Nat.add_assoc]⟩

end Go.Proofs.Ytdeikjiflinkhaa
