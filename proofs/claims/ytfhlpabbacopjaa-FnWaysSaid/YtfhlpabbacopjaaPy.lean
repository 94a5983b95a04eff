/- The functions of paths, over volumes of quarters of one length. -/
import Derived.Test.YtfhlpabbacopjaaPx
namespace Go.Proofs.Ytfhlpabbacopjaa
open Go.RowKit
set_option maxRecDepth 100000
set_option linter.unusedVariables false
set_option linter.unusedSimpArgs false

/-- A volume of quarters in memory. -/
structure VQ (W : World) (wd hi dp q c N : Nat) (bs : List Nat) (P : Int → Int → List Int) : Prop where
  sl : SlF W (.slice (some ⟨q, 0, none⟩) N c) bs
  qlt : q < W.heap.size
  qv : QV bs wd hi dp P
theorem VQ.below {W W' : World} {wd hi dp q c N : Nat} {bs : List Nat} {P : Int → Int → List Int} (h : VQ W wd hi dp q c N bs P) (hb : Below W.heap.size W W') : VQ W' wd hi dp q c N bs P := ⟨h.sl.below hb, Nat.lt_of_lt_of_le h.qlt hb.size, h.qv⟩
theorem VQ.len {W : World} {wd hi dp q c N : Nat} {bs : List Nat} {P : Int → Int → List Int} (h : VQ W wd hi dp q c N bs P) : bs.length = N := h.sl.size.1
theorem VQ.ok {W : World} {wd hi dp q c N : Nat} {bs : List Nat} {P : Int → Int → List Int} (h : VQ W wd hi dp q c N bs P) (hv : vVol wd hi dp (wd * hi * dp) = true) : VolOk W wd hi dp q 0 c bs := ⟨hv, by have := h.sl; rw [← h.len] at this; exact this, h.qv.1⟩
theorem VQ.of {W : World} {wd hi dp q c N B : Nat} {bs : List Nat} {P : Int → Int → List Int} (h : OwnF W B (.slice (some ⟨q, 0, none⟩) bs.length c) bs) (hl : bs.length = N) (hq : QV bs wd hi dp P) : VQ W wd hi dp q c N bs P := by
  have := (h.lt (k := q) rfl).2
  rw [hl] at h
  exact ⟨h.sl, this, hq⟩

theorem path_vq {W : World} {wd hi dp q c N : Nat} {bs : List Nat} {P : Int → Int → List Int} (k : Nat) (one more : Int) (h : VQ W wd hi dp q c N bs P) (hv : vVol wd hi dp (wd * hi * dp) = true) (hN : N = wd * hi * dp) (hk : k < 8) (hqb : ∀ x y, insI x y wd hi → qb2 (P x y)) (h1 : 0 ≤ one) (h2 : one ≤ more) (h3 : more ≤ 1000000) :
    Calls Try.prog 12 #[.agg #[.int .i64 wd, .int .i64 hi, .int .i64 dp, .slice (some ⟨q, 0, none⟩) N c], .agg #[.float .f32 (fq 2 one), .float .f32 (fq 2 more)], .int .i64 k] W fun e w' =>
      ∃ (q2 c2 : Nat) (bs2 : List Nat) (P2 : Int → Int → List Int), e = .returned (.tuple #[.agg #[.int .i64 wd, .int .i64 hi, .int .i64 dp, .slice (some ⟨q2, 0, none⟩) N c2], .bool true]) ∧ VQ w' wd hi dp q2 c2 N bs2 P2 ∧ IsAlong (pathG (fun _ _ _ _ => (one, more)) (wayX k) (wayY k)) P (wayX k) (wayY k) wd hi P2 ∧ (∀ x y, insI x y wd hi → PathOkI P dp x y (P2 x y)) ∧ Below W.heap.size W w' := by
  have K := pathVolume_ok W wd hi dp q 0 c k bs P one more (h.ok hv) h.qlt h.qv hk hqb h1 h2 h3
  rw [h.len] at K
  refine K.mono ?_
  rintro e w' ⟨q2, c2, bs2, P2, rfl, hown, hq, hal, hok, hb⟩
  have hl : bs2.length = N := by rw [hq.1, hN]
  exact ⟨q2, c2, bs2, P2, by rw [hl], .of hown hl hq, hal, hok, hb⟩

theorem scale_vq {W : World} {wd hi dp q c N : Nat} {bs : List Nat} {P : Int → Int → List Int} (h : VQ W wd hi dp q c N bs P) (hv : vVol wd hi dp (wd * hi * dp) = true) (hN : N = wd * hi * dp) (hqb : ∀ x y, insI x y wd hi → qb3 (P x y)) :
    Calls Try.prog 13 #[.agg #[.int .i64 wd, .int .i64 hi, .int .i64 dp, .slice (some ⟨q, 0, none⟩) N c], .float .f32 1073741824] W fun e w' =>
      ∃ (q2 c2 : Nat) (bs2 : List Nat), e = .returned (.tuple #[.agg #[.int .i64 wd, .int .i64 hi, .int .i64 dp, .slice (some ⟨q2, 0, none⟩) N c2], .bool true]) ∧ VQ w' wd hi dp q2 c2 N bs2 (fun x y => (P x y).map ((2 : Int) * ·)) ∧ Below W.heap.size W w' := by
  have K := scale_ok W wd hi dp q 0 c bs 1073741824 (h.ok hv)
  rw [h.len] at K
  refine K.mono ?_
  rintro e w' ⟨q2, c2, bs2, rfl, hown, hcon, hb⟩
  have hq := scale_q h.qv hqb hcon
  have hl : bs2.length = N := by rw [hq.1, hN]
  exact ⟨q2, c2, bs2, by rw [hl], .of hown hl hq, hb⟩

theorem mirror_vq {W : World} {wd hi dp q c N : Nat} {bs : List Nat} {P : Int → Int → List Int} (h : VQ W wd hi dp q c N bs P) (hv : vVol wd hi dp (wd * hi * dp) = true) (hN : N = wd * hi * dp) (hqb : ∀ x y, insI x y wd hi → qb3 (P x y)) :
    Calls Try.prog 14 #[.agg #[.int .i64 wd, .int .i64 hi, .int .i64 dp, .slice (some ⟨q, 0, none⟩) N c]] W fun e w' =>
      ∃ (q2 c2 : Nat) (bs2 : List Nat), e = .returned (.tuple #[.agg #[.int .i64 wd, .int .i64 hi, .int .i64 dp, .slice (some ⟨q2, 0, none⟩) N c2], .bool true]) ∧ VQ w' wd hi dp q2 c2 N bs2 (fun x y => P ((wd : Int) - 1 - x) y) ∧ Below W.heap.size W w' := by
  have K := mirrorV_ok W wd hi dp q 0 c bs (h.ok hv)
  rw [h.len] at K
  refine K.mono ?_
  rintro e w' ⟨q2, c2, bs2, rfl, hown, hcon, hb⟩
  have hq := mirror_q h.qv hqb hcon
  have hl : bs2.length = N := by rw [hq.1, hN]
  exact ⟨q2, c2, bs2, by rw [hl], .of hown hl hq, hb⟩

theorem sum1_vq {W : World} {wd hi dp q c N : Nat} {bs : List Nat} {P : Int → Int → List Int} (one more : Int) (h : VQ W wd hi dp q c N bs P) (hv : vVol wd hi dp (wd * hi * dp) = true) (hN : N = wd * hi * dp) (hqb : ∀ x y, insI x y wd hi → qb2 (P x y)) (h1 : 0 ≤ one) (h2 : one ≤ more) (h3 : more ≤ 1000000) :
    Calls Try.prog 18 #[.agg #[.int .i64 wd, .int .i64 hi, .int .i64 dp, .slice (some ⟨q, 0, none⟩) N c], .agg #[.float .f32 (fq 2 one), .float .f32 (fq 2 more)], .int .i64 1] W fun e w' =>
      ∃ (q2 c2 : Nat) (bs2 : List Nat) (P2 : Int → Int → List Int), e = .returned (.tuple #[.agg #[.int .i64 wd, .int .i64 hi, .int .i64 dp, .slice (some ⟨q2, 0, none⟩) N c2], .bool true]) ∧ VQ w' wd hi dp q2 c2 N bs2 P2 ∧ IsAlong (pathG (fun _ _ _ _ => (one, more)) (wayX 0) (wayY 0)) P (wayX 0) (wayY 0) wd hi P2 ∧ Below W.heap.size W w' := by
  have hd := (h.ok hv).dims
  have K := sumPaths_ok W wd hi dp q 0 c 1 bs P one more (h.ok hv) h.qlt h.qv (by omega) (by omega) hqb h1 h2 h3
  rw [h.len] at K
  refine K.mono ?_
  rintro e w' ⟨q2, c2, bs2, Ps, rfl, hown, hcon, hal, hb⟩
  obtain ⟨a1, a2⟩ := hal 0 (by omega)
  have hq : QV bs2 wd hi dp (Ps 0) := QV.of_flat (fun x y hx hy => (a2 x y ⟨Int.natCast_nonneg _, Int.ofNat_lt.2 hx, Int.natCast_nonneg _, Int.ofNat_lt.2 hy⟩).1) hd.2.2.2.2.1 (by
    rw [hcon, List.map_map]
    refine List.map_congr_left fun i _ => ?_
    show fq 2 (0 + fzI wd dp (Ps 0) i) = _
    rw [Int.zero_add])
  have hl : bs2.length = N := by rw [hq.1, hN]
  exact ⟨q2, c2, bs2, Ps 0, by rw [hl], .of hown hl hq, a1, hb⟩

theorem same_vq {W : World} {wd hi dp q c q2 c2 N : Nat} {bs bs2 : List Nat} {P P2 : Int → Int → List Int} (h : VQ W wd hi dp q c N bs P) (h2 : VQ W wd hi dp q2 c2 N bs2 P2) (hd : 1 ≤ dp) (hw : 1 ≤ wd) (e : ∀ x y, insI x y wd hi → P x y = P2 x y) :
    Calls Try.prog 16 #[.agg #[.int .i64 wd, .int .i64 hi, .int .i64 dp, .slice (some ⟨q, 0, none⟩) N c], .agg #[.int .i64 wd, .int .i64 hi, .int .i64 dp, .slice (some ⟨q2, 0, none⟩) N c2]] W fun e w' => e = .returned (.bool true) ∧ Below W.heap.size W w' :=
  sameVolume_yes W wd hi dp _ _ N N c c2 bs bs2 h.sl h2.sl (by rw [h.qv.same h2.qv hd hw e])

end Go.Proofs.Ytfhlpabbacopjaa
