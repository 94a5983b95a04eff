/- Contracts of the pictures' small functions: sizes, clamp, about, has, remade. -/
import Derived.Test.YtkhoifgljalfcaaMade
import Derived.IntWalk
namespace Go.Proofs.Ytkhoifgljalfcaa
open Go.RowKit
set_option maxRecDepth 100000
set_option linter.unusedVariables false

/-- A contract that leaves the world alone, met in a region that draws. -/
theorem quiet_same {P : Program} {f : FuncId} {args : Array Value} {w : World} {n : Nat} {v : Value} (h : Calls P f args (w.drewN n) fun e w' => e = .returned v ∧ w.drewN n = w') :
    Calls P f args (w.drewN n) fun e w'' => e = .returned v ∧ ∃ m, w'' = w.drewN m := h.mono fun _ _ ⟨he, hw⟩ => ⟨he, n, hw.symm⟩

/-- The place among m that is nearest to n. -/
def cl (n : Int) (m : Nat) : Nat := (max 0 (min n ((m : Int) - 1))).toNat

theorem cl_lt (n : Int) {m : Nat} (h : 0 < m) : cl n m < m := by unfold cl; omega

theorem cl_in {n : Int} {m : Nat} (h0 : 0 ≤ n) (h1 : n < m) : (cl n m : Int) = n := by unfold cl; omega

theorem cl_nat {n m : Nat} (h1 : n < m) : cl (n : Int) m = n := by unfold cl; omega

theorem clamp_any (n : Int) (m : Nat) (hm : 0 < m) (hm2 : m ≤ 1000000) (w : World) : Calls Try.prog 110 #[.int .i64 n, .int .i64 m] w fun e w' => e = .returned (.int .i64 (cl n m : Nat)) ∧ w = w' := by
  have h1 : (1 : Int) ≤ (m : Int) := by omega
  have h2 : (m : Int) ≤ 1000000 := by omega
  go_enter Try.func110, Try.ntmps110
  go_wp2
  all_goals (go_ret; simp [cl]; omega)

/-- The cells of a picture's box, and what its slice reads as. -/
structure PicAt (W : World) (pb : Nat) (wd hi : Nat) (v : Value) (bs : List Nat) (T : TypeId) : Prop where
  box : Box3 W pb (.int .i64 wd) (.int .i64 hi) v T
  sl : SlF W v bs
  len : bs.length = wd * hi

theorem PicAt.below {W W' : World} {pb wd hi : Nat} {v : Value} {bs : List Nat} {T : TypeId} (h : PicAt W pb wd hi v bs T) (hb : Below W.heap.size W W') : PicAt W' pb wd hi v bs T := ⟨h.box.below hb, h.sl.below hb, h.len⟩

/-- The place of a cell about a place. -/
def ix (x y : Int) (wd hi : Nat) : Nat := cl x wd + wd * cl y hi

theorem ix_lt (x y : Int) {wd hi : Nat} (hw : 0 < wd) (hh : 0 < hi) : ix x y wd hi < wd * hi := by
  unfold ix
  have h1 := cl_lt x hw
  have h2 := cl_lt y hh
  calc cl x wd + wd * cl y hi < wd + wd * cl y hi := by omega
    _ = wd * (cl y hi + 1) := by rw [Nat.mul_add]; omega
    _ ≤ wd * hi := Nat.mul_le_mul_left _ h2

theorem getD_of (bs : List Nat) (i : Nat) (h : i < bs.length) : bs[i] = bs.getD i 0 := by rw [List.getD_eq_getElem?_getD, List.getElem?_eq_getElem h]; rfl

theorem about_any (W : World) (pb wd hi : Nat) (v : Value) (bs : List Nat) (x y : Int) (hw : 0 < wd) (hh : 0 < hi) (hw2 : wd ≤ 1000) (hh2 : hi ≤ 1000) (h : PicAt W pb wd hi v bs 66) :
    Calls Try.prog 82 #[.pointer (some ⟨pb, 0, none⟩), .int .i64 x, .int .i64 y] W fun e w' => e = .returned (.float .f32 (bs.getD (ix x y wd hi) 0)) ∧ ∃ n, w' = W.drewN n := by
  obtain ⟨c0, c1, c2, -, -, -⟩ := h.box.cells
  have hix := ix_lt x y hw hh
  have hne : bs ≠ [] := by intro e; rw [e] at h; have := h.len; simp at this; omega
  obtain ⟨b, off, cap, rfl, hb, hc⟩ := h.sl.form hne
  have hl := h.len
  have hc1 := hc (ix x y wd hi) (by omega)
  rw [getD_of bs _ (by omega)] at hc1
  have hmul : cl y hi * wd ≤ 1000 * 1000 := Nat.mul_le_mul (by have := cl_lt y hh; omega) hw2
  have hlb : bs.length ≤ 1000000 := by rw [hl]; exact Nat.mul_le_mul hw2 hh2
  have hA := cl_lt x hw
  unfold ix at hix hc1 ⊢
  have e1 : IntKind.i64.wrap ((wd : Int) * (cl y hi : Nat)) = (wd : Int) * (cl y hi : Nat) := IntWalk.i64_in _ (by rw [← Int.natCast_mul, Nat.mul_comm]; omega)
  have e2 : IntKind.i64.wrap (((cl x wd : Nat) : Int) + (wd : Int) * (cl y hi : Nat)) = ((cl x wd : Nat) : Int) + (wd : Int) * (cl y hi : Nat) := IntWalk.i64_in _ (by rw [← Int.natCast_mul, Nat.mul_comm]; omega)
  have e3 : (0 : Int) ≤ ((cl x wd : Nat) : Int) + (wd : Int) * (cl y hi : Nat) := by rw [← Int.natCast_mul]; omega
  have e4 : ((cl x wd : Nat) : Int) + (wd : Int) * (cl y hi : Nat) < (bs.length : Int) := by rw [← Int.natCast_mul]; omega
  have e5 : (((cl x wd : Nat) : Int) + (wd : Int) * (cl y hi : Nat)).toNat = cl x wd + wd * cl y hi := by rw [← Int.natCast_mul]; omega
  clear hc hl hmul h
  generalize hca : cl x wd = ca at *
  generalize hcb : cl y hi = cb at *
  have k1 : ∀ n : Nat, Calls Try.prog 110 #[.int .i64 x, .int .i64 wd] (W.drewN n) fun e w' => e = .returned (.int .i64 (ca : Nat)) ∧ W.drewN n = w' := fun n => hca ▸ clamp_any x wd hw (by omega) _
  have k2 : ∀ n : Nat, Calls Try.prog 110 #[.int .i64 y, .int .i64 hi] (W.drewN n) fun e w' => e = .returned (.int .i64 (cb : Nat)) ∧ W.drewN n = w' := fun n => hcb ▸ clamp_any y hi hh (by omega) _
  have K1 := Lib.hid k1
  have K2 := Lib.hid k2
  clear k1 k2 hca hcb
  go_enter Try.func82, Try.ntmps82
  go_wp2
  go_quiet ((first | with_reducible exact quiet_same (K1.out _) | with_reducible exact quiet_same (K2.out _)))
  go_wp2
  go_ret
  exact ⟨rfl, _, rfl⟩

/-- A size that a picture may have. -/
def szOk (a b : Int) : Bool := decide (1 ≤ a) && decide (a ≤ 24) && (decide (1 ≤ b) && decide (b ≤ 24)) && decide (a * b ≤ 256)

theorem sizeOk_any (a b : Int) (w : World) : Calls Try.prog 63 #[.int .i64 a, .int .i64 b] w fun e w' => e = .returned (.bool (szOk a b)) ∧ w = w' := by
  cases h1 : (decide (1 ≤ a) && decide (a ≤ 24))
  · have e : szOk a b = false := by unfold szOk; rw [h1]; simp
    rw [e]; clear e
    go_enter Try.func63, Try.ntmps63
    go_wp2_with (go_at_call 101; refine (in_any _ _ _ _).mono ?_; rintro e w' ⟨rfl, rfl⟩)
    go_ret
    simp
  · cases h2 : (decide (1 ≤ b) && decide (b ≤ 24))
    · have e : szOk a b = false := by unfold szOk; rw [h2]; simp
      rw [e]; clear e
      go_enter Try.func63, Try.ntmps63
      go_wp2_with (go_at_call 101; refine (in_any _ _ _ _).mono ?_; rintro e w' ⟨rfl, rfl⟩)
      go_ret
      simp
    · have e : szOk a b = decide (a * b ≤ 256) := by unfold szOk; rw [h1, h2]; simp
      rw [e]; clear e
      simp only [Bool.and_eq_true, decide_eq_true_eq] at h1 h2
      have hab : 0 ≤ a * b := Int.mul_nonneg (by omega) (by omega)
      have hab2 : a * b ≤ 576 := by
        have := Int.mul_le_mul h1.2 h2.2 (by omega) (by omega)
        omega
      obtain ⟨a1, a2⟩ := h1
      obtain ⟨b1, b2⟩ := h2
      have k1 : (decide (1 ≤ a) && decide (a ≤ 24)) = true := by simp [a1, a2]
      have k2 : (decide (1 ≤ b) && decide (b ≤ 24)) = true := by simp [b1, b2]
      go_enter Try.func63, Try.ntmps63
      go_wp2_with (go_at_call 101; refine (in_any _ _ _ _).mono ?_; rintro e w' ⟨rfl, rfl⟩)
      all_goals (go_ret; simp [*])

theorem szOk_spec {a b : Int} (h : szOk a b = true) : 1 ≤ a ∧ a ≤ 24 ∧ 1 ≤ b ∧ b ≤ 24 ∧ a * b ≤ 256 := by
  unfold szOk at h; simp only [Bool.and_eq_true, decide_eq_true_eq] at h; omega

theorem szOk_of {a b : Int} (h1 : 1 ≤ a) (h2 : a ≤ 24) (h3 : 1 ≤ b) (h4 : b ≤ 24) (h5 : a * b ≤ 256) : szOk a b = true := by
  unfold szOk; simp [h1, h2, h3, h4, h5]

/-- A picture, a map that is right. -/
def vPic (a b : Int) (n : Nat) : Bool := szOk a b && decide ((n : Int) = a * b)

theorem vPic_spec {a b : Int} {n : Nat} (h : vPic a b n = true) : ∃ wd hi : Nat, a = wd ∧ b = hi ∧ n = wd * hi ∧ 1 ≤ wd ∧ wd ≤ 24 ∧ 1 ≤ hi ∧ hi ≤ 24 ∧ wd * hi ≤ 256 := by
  unfold vPic at h
  simp only [Bool.and_eq_true, decide_eq_true_eq] at h
  obtain ⟨h1, h2, h3, h4, h5⟩ := szOk_spec h.1
  obtain ⟨wd, rfl⟩ := Int.eq_ofNat_of_zero_le (show 0 ≤ a by omega)
  obtain ⟨hi, rfl⟩ := Int.eq_ofNat_of_zero_le (show 0 ≤ b by omega)
  have e : ((wd : Int) * (hi : Int)) = ((wd * hi : Nat) : Int) := by simp
  rw [e] at h5 h
  exact ⟨wd, hi, rfl, rfl, by omega, by omega, by omega, by omega, by omega, by omega⟩

theorem vPic_of {wd hi : Nat} (h1 : 1 ≤ wd) (h2 : wd ≤ 24) (h3 : 1 ≤ hi) (h4 : hi ≤ 24) (h5 : wd * hi ≤ 256) : vPic wd hi (wd * hi) = true := by
  unfold vPic
  rw [szOk_of (by omega) (by omega) (by omega) (by omega) (by rw [← Int.natCast_mul]; omega)]
  simp

theorem validPicture_any (a b : Int) (sa : Option Addr) (n c : Nat) (hn : n ≤ 9223372036854775807) (w : World) : Calls Try.prog 79 #[.agg #[.int .i64 a, .int .i64 b, .slice sa n c]] w fun e w' => e = .returned (.bool (vPic a b n)) ∧ Below w.heap.size w w' := by
  cases h : szOk a b
  · have e : vPic a b n = false := by unfold vPic; rw [h]; rfl
    rw [e]; clear e
    go_enter Try.func79, Try.ntmps79
    go_wp2_with (go_at_call 63; refine (sizeOk_any _ _ _).mono ?_; rintro e w' ⟨rfl, rfl⟩)
    go_ret
    exact ⟨rfl, (Below.refl _ _).alloc (Nat.le_refl _) _⟩
  · have e : vPic a b n = ((n : Int) == a * b) := by unfold vPic; rw [h, Bool.true_and]; rw [Bool.eq_iff_iff]; simp
    rw [e]; clear e
    obtain ⟨h1, h2, h3, h4, h5⟩ := szOk_spec h
    have hab : 0 ≤ a * b := Int.mul_nonneg (by omega) (by omega)
    go_enter Try.func79, Try.ntmps79
    go_wp2_with (go_at_call 63; refine (sizeOk_any _ _ _).mono ?_; rintro e w' ⟨rfl, rfl⟩)
    go_ret
    exact ⟨rfl, (Below.refl _ _).alloc (Nat.le_refl _) _⟩

theorem validMap_any (a b : Int) (sa : Option Addr) (n c : Nat) (hn : n ≤ 9223372036854775807) (w : World) : Calls Try.prog 67 #[.agg #[.int .i64 a, .int .i64 b, .slice sa n c]] w fun e w' => e = .returned (.bool (vPic a b n)) ∧ Below w.heap.size w w' := by
  cases h : szOk a b
  · have e : vPic a b n = false := by unfold vPic; rw [h]; rfl
    rw [e]; clear e
    go_enter Try.func67, Try.ntmps67
    go_wp2_with (go_at_call 63; refine (sizeOk_any _ _ _).mono ?_; rintro e w' ⟨rfl, rfl⟩)
    go_ret
    exact ⟨rfl, (Below.refl _ _).alloc (Nat.le_refl _) _⟩
  · have e : vPic a b n = ((n : Int) == a * b) := by unfold vPic; rw [h, Bool.true_and]; rw [Bool.eq_iff_iff]; simp
    rw [e]; clear e
    obtain ⟨h1, h2, h3, h4, h5⟩ := szOk_spec h
    have hab : 0 ≤ a * b := Int.mul_nonneg (by omega) (by omega)
    go_enter Try.func67, Try.ntmps67
    go_wp2_with (go_at_call 63; refine (sizeOk_any _ _ _).mono ?_; rintro e w' ⟨rfl, rfl⟩)
    go_ret
    exact ⟨rfl, (Below.refl _ _).alloc (Nat.le_refl _) _⟩

/-- Is a place in a picture? -/
def inB (x y : Int) (wd hi : Nat) : Bool := decide (0 ≤ x) && decide (x ≤ (wd : Int) - 1) && (decide (0 ≤ y) && decide (y ≤ (hi : Int) - 1))

theorem inB_iff {x y : Int} {wd hi : Nat} : inB x y wd hi = true ↔ 0 ≤ x ∧ x < wd ∧ 0 ≤ y ∧ y < hi := by unfold inB; simp; omega

theorem picHas_any (W : World) (pb wd hi : Nat) (v : Value) (x y : Int) (hw2 : wd ≤ 1000) (hh2 : hi ≤ 1000) (h : Box3 W pb (.int .i64 wd) (.int .i64 hi) v 66) :
    Calls Try.prog 81 #[.pointer (some ⟨pb, 0, none⟩), .int .i64 x, .int .i64 y] W fun e w' => e = .returned (.bool (inB x y wd hi)) ∧ W = w' := by
  obtain ⟨c0, c1, c2, -, -, -⟩ := h.cells
  have b1 : (wd : Int) ≤ 1000 := by omega
  have b2 : (hi : Int) ≤ 1000 := by omega
  cases hx : (decide (0 ≤ x) && decide (x ≤ (wd : Int) - 1))
  · have e : inB x y wd hi = false := by unfold inB; rw [hx]; rfl
    rw [e]; clear e h
    go_enter Try.func81, Try.ntmps81
    go_wp2_with (go_at_call 101; refine (in_any _ _ _ _).mono ?_; rintro e w' ⟨rfl, rfl⟩)
    go_ret
    simp
  · have e : inB x y wd hi = (decide (0 ≤ y) && decide (y ≤ (hi : Int) - 1)) := by unfold inB; rw [hx, Bool.true_and]
    rw [e]; clear e h
    go_enter Try.func81, Try.ntmps81
    go_wp2_with (go_at_call 101; refine (in_any _ _ _ _).mono ?_; rintro e w' ⟨rfl, rfl⟩)
    go_ret
    simp

/-- A picture made anew, and true. -/
def MakesPicOk (w : World) (wd hi : Nat) (g : Nat → Nat → Nat) (e : Ending) (w' : World) : Prop :=
  ∃ a c bs, e = .returned (.tuple #[.agg #[.int .i64 wd, .int .i64 hi, .slice a (List.length bs) c], .bool true]) ∧ OwnF w' w.heap.size (.slice a (List.length bs) c) bs ∧ bs.map fl = tab (hi * wd) (fun i => g (i % wd) (i / wd)) ∧ Below w.heap.size w w'

theorem Gives2.below {w0 w1 : World} {fv : Value} {wd hi : Nat} {g : Nat → Nat → Nat} (h : Gives2 w0 fv wd hi g) (hb : Below w0.heap.size w0 w1) : Gives2 w1 fv wd hi g := by
  obtain ⟨fid, caps, h1, h2, h3⟩ := h
  exact ⟨fid, caps, h1, h2, fun x y W hx hy hW => h3 x y W hx hy (hb.trans (hW.mono hb.size))⟩

theorem remade_ok (w : World) (wd hi N : Nat) (sa : Option Addr) (c : Nat) (fv : Value) (g : Nat → Nat → Nat) (hv : vPic wd hi N = true) (hf : Gives2 w fv wd hi g) :
    Calls Try.prog 85 #[.agg #[.int .i64 wd, .int .i64 hi, .slice sa N c], fv] w (MakesPicOk w wd hi g) := by
  obtain ⟨x1, x2, e1, e2, e3, b1, b2, b3, b4, b5⟩ := vPic_spec hv
  have hw : wd ≤ 24 := by omega
  have hh : hi ≤ 24 := by omega
  have hn : N ≤ 256 := by omega
  clear e1 e2 e3 b1 b2 b3 b4 b5
  go_enter Try.func85, Try.ntmps85
  go_wp2_with fail
  refine (validPicture_any _ _ _ _ _ (by omega) _).mono ?_
  rw [hv]
  rintro e w1 ⟨rfl, hb1⟩
  have hb0 := below_two w (.cells #[.int .i64 wd, .int .i64 hi, .slice sa N c] 66) (.cells #[.int .i64 0, .int .i64 0, .slice none 0 0] 66)
  have B1 := (box_first w (.int .i64 wd) (.int .i64 hi) (.slice sa N c) 66 (.cells #[.int .i64 0, .int .i64 0, .slice none 0 0] 66)).below hb1
  have B2 := (box_second w (.int .i64 0) (.int .i64 0) (.slice none 0 0) 66 (.cells #[.int .i64 wd, .int .i64 hi, .slice sa N c] 66)).below hb1
  have hb := hb0.trans (hb1.mono hb0.size)
  have hs := B2.lt
  obtain ⟨c0, c1, c2, f0, f1, f2⟩ := B1.cells
  clear hb1 hb0
  go_wp2_with fail
  refine (made_any w1 wd hi fv g hw hh (hf.below hb)).mono ?_
  rintro e w2 ⟨a, cc, bs, rfl, hown, hcon, hb2⟩
  obtain ⟨d0, d1, d2, g0, g1, g2⟩ := (B2.below hb2).cells
  have hbb := hb.trans (hb2.mono hb.size)
  go_wp2
  refine bodyPost_ret (v := .tuple #[.agg #[.int .i64 wd, .int .i64 hi, .slice a bs.length cc], .bool true]) (by simp [results, Try.results85, go_sem, d0, d1, d2]) rfl ?_
  exact ⟨a, cc, bs, rfl, (((hown.set (by simp; omega) _).set (by simp; omega) _).set (by simp; omega) _).mono (by omega), hcon, ((hbb.setCell (by simp) _).setCell (by simp) _).setCell (by simp) _⟩

end Go.Proofs.Ytkhoifgljalfcaa
