/- Plain facts of the law of pictures told back. -/
import Derived.Test.YtialajgobpokmaaPn
namespace Go.Proofs.Ytialajgobpokmaa
open Go.RowKit
set_option maxRecDepth 100000
set_option linter.unusedVariables false
set_option linter.unusedSimpArgs false

/-- A shifted picture. -/
def shK (ks : List Int) (wd hi d : Nat) : List Int := tabI (wd * hi) fun i => ks.getD (ix (((i % wd : Nat) : Int) + d) (i / wd : Nat) wd hi) 0
theorem shift_pw (w : World) (wd hi N q c d : Nat) (ks : List Int) (hv : vPic wd hi N = true) (h : PW w q c N (ks.map (fq 2))) (hd : d ≤ 24) (hl : ks.length = N) (hk : ∀ k ∈ ks, 0 ≤ k ∧ k ≤ 16) :
    Calls Try.prog 25 #[.agg #[.int .i64 wd, .int .i64 hi, .slice (some ⟨q, 0, none⟩) N c], .int .i64 d] w fun e w' => ∃ q c, e = .returned (.tuple #[.agg #[.int .i64 wd, .int .i64 hi, .slice (some ⟨q, 0, none⟩) N c], .bool true]) ∧ PW w' q c N ((shK ks wd hi d).map (fq 2)) ∧ Below w.heap.size w w' := by
  obtain ⟨e1, e2, e3, e4, e5, e6, e7⟩ := vN hv
  have k := shift_ok w wd hi (some ⟨q, 0, none⟩) c (ks.map (fq 2)) d (by omega) (by omega) (h.ok hv)
  rw [h.len] at k
  refine k.mono fun e w' hh => ?_
  obtain ⟨q2, c2, bs, rfl, hp, hc, hb⟩ := hh.pw e1 e2
  have hbd := ks_bd hk
  have : bs = (shK ks wd hi d).map (fq 2) := by
    unfold shK
    refine bs_of_tab (fun i _ => by have := hbd (ix (((i % wd : Nat) : Int) + d) (i / wd : Nat) wd hi); omega) ?_
    rw [hc]
    unfold tab
    apply List.map_congr_left
    intro i hi_
    have hi2 := List.mem_range.1 hi_
    have hx := Nat.mod_lt i e3
    have hm : (i % wd + wd * (i / wd)) % wd = i % wd := md1 hx
    have hdv : (i % wd + wd * (i / wd)) / wd = i / wd := md2 hx
    dsimp only
    rw [hm, hdv]
    have hlt : ix (((i % wd : Nat) : Int) + d) (i / wd : Nat) wd hi < ks.length := by rw [hl, e1]; exact ix_lt _ _ e3 e4
    have e : (ks.map (fq 2)).getD (ix (((i % wd : Nat) : Int) + d) (i / wd : Nat) wd hi) 0 = fq 2 (ks.getD (ix (((i % wd : Nat) : Int) + d) (i / wd : Nat) wd hi) 0) := by
      rw [List.getD_eq_getElem?_getD, List.getD_eq_getElem?_getD, List.getElem?_map, List.getElem?_eq_getElem hlt]; rfl
    rw [e, fl_fq (by have := hbd (ix (((i % wd : Nat) : Int) + d) (i / wd : Nat) wd hi); omega)]
  rw [this] at hp
  exact ⟨q2, c2, rfl, hp, hb⟩
theorem shK_len (ks : List Int) (wd hi d : Nat) : (shK ks wd hi d).length = wd * hi := by unfold shK; exact tabI_length _ _
theorem shK_bd {ks : List Int} (hk : ∀ k ∈ ks, 0 ≤ k ∧ k ≤ 16) (wd hi d : Nat) : ∀ k ∈ shK ks wd hi d, 0 ≤ k ∧ k ≤ 16 := by
  intro k h
  obtain ⟨i, hi_, rfl⟩ := mem_tabI h
  exact ks_bd hk _
/-- What is told back is what was there. -/
theorem back_shift (ks : List Int) {wd hi d x y : Nat} (hdx : d ≤ x) (hx : x < wd) (hy : y < hi) : backF (shK ks wd hi d) wd hi d x y = ks.getD (x + wd * y) 0 := by
  unfold backF
  have e : ix ((x : Int) - d) (y : Int) wd hi = (x - d) + wd * y := by
    rw [show ((x : Int) - d) = ((x - d : Nat) : Int) by omega]
    exact ix_in (by omega) hy
  rw [e]
  unfold shK
  have hx2 : x - d < wd := by omega
  have hlt : (x - d) + wd * y < wd * hi := by
    calc (x - d) + wd * y < wd + wd * y := by omega
      _ = wd * (y + 1) := by rw [Nat.mul_add, Nat.mul_one, Nat.add_comm]
      _ ≤ wd * hi := Nat.mul_le_mul_left _ hy
  rw [tabI_get hlt, md1 hx2, md2 hx2]
  congr 1
  rw [show (((x - d : Nat) : Int) + d) = (x : Int) by omega]
  exact ix_in hx hy
theorem back_words {ks : List Int} {wd hi N d : Nat} {bs : List Nat} (hv : vPic wd hi N = true) (hk : ∀ k ∈ ks, 0 ≤ k ∧ k ≤ 16) (h : bs.map fl = tab (hi * wd) fun i => (fun x y => fq 2 (backF ks wd hi d x y)) (i % wd) (i / wd)) : ∀ x y, x < wd → y < hi → bs.getD (x + wd * y) 0 = fq 2 (backF ks wd hi d x y) := by
  intro x y hx hy
  have e := tab_at (F := fun i => (fun x y => fq 2 (backF ks wd hi d x y)) (i % wd) (i / wd)) h hx hy
  dsimp only at e
  rw [md1 hx, md2 hx] at e
  have hb := ks_bd hk (ix ((x : Int) - d) (y : Int) wd hi)
  exact eq_of_flq (by unfold backF; omega) e
theorem offS_nonneg {xs ys : List Int} (ha : ∀ k ∈ xs, 0 ≤ k ∧ k ≤ 16) (hb : ∀ k ∈ ys, 0 ≤ k ∧ k ≤ 16) {wd hi : Nat} (hw : wd ≤ 24) (hh : hi ≤ 24) (k : Int) : 0 ≤ offS xs ys wd hi k ∧ offS xs ys wd hi k ≤ 10000 := by
  have h1 : ∀ y, 0 ≤ sumN wd (offF xs ys wd hi k y) ∧ sumN wd (offF xs ys wd hi k y) ≤ 384 := fun y => by
    have := sumN_bd (B := 16) wd (fun x (_ : x < wd) => offF_bd ha hb wd hi k y x)
    omega
  have := sumN_bd (B := 384) hi (fun y (_ : y < hi) => h1 y)
  unfold offS; omega
theorem offS_self (xs : List Int) (wd hi : Nat) : offS xs xs wd hi 0 = 0 := by
  have h0 : ∀ n, sumN n (fun _ => 0) = 0 := by
    intro n
    induction n with
    | zero => rfl
    | succ n ih => show sumN n _ + 0 = 0; omega
  unfold offS
  rw [sumN_congr hi (G := fun _ => 0) (fun y _ => ?_), h0]
  rw [sumN_congr wd (G := fun _ => 0) (fun x _ => ?_), h0]
  unfold offF
  simp

end Go.Proofs.Ytialajgobpokmaa
