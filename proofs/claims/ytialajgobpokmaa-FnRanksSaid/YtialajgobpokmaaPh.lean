/- Pictures of one length: contracts for the law of means; plain facts. -/
import Derived.Test.YtialajgobpokmaaPg
namespace Go.Proofs.Ytialajgobpokmaa
open Go.RowKit
set_option maxRecDepth 100000
set_option linter.unusedVariables false
set_option linter.unusedSimpArgs false

/-- Words in memory. -/
structure PW (W : World) (q c N : Nat) (bs : List Nat) : Prop where
  sl : SlF W (.slice (some ⟨q, 0, none⟩) N c) bs
  lt : q < W.heap.size
  len : bs.length = N
theorem PW.below {W W' : World} {q c N : Nat} {bs : List Nat} (h : PW W q c N bs) (hb : Below W.heap.size W W') : PW W' q c N bs := ⟨h.sl.below hb, Nat.lt_of_lt_of_le h.lt hb.size, h.len⟩
theorem PW.ok {W : World} {q c N wd hi : Nat} {bs : List Nat} (h : PW W q c N bs) (hv : vPic wd hi N = true) : PicOk W wd hi (some ⟨q, 0, none⟩) c bs := by
  obtain ⟨x1, x2, e1, e2, e3, b1, b2, b3, b4, b5⟩ := vPic_spec hv
  have hN : N = wd * hi := by rw [e3]; congr 1 <;> omega
  exact ⟨by rw [← hN]; exact hv, by rw [h.len]; exact h.sl, by rw [h.len, hN]⟩
def MakesPW (w : World) (wd hi N : Nat) (g : Nat → Nat → Nat) (e : Ending) (w' : World) : Prop :=
  ∃ q c bs, e = .returned (.tuple #[.agg #[.int .i64 wd, .int .i64 hi, .slice (some ⟨q, 0, none⟩) N c], .bool true]) ∧ PW w' q c N bs ∧ bs.map fl = tab (hi * wd) (fun i => g (i % wd) (i / wd)) ∧ Below w.heap.size w w'
theorem MakesPicOk.pw {w w' : World} {e : Ending} {wd hi N : Nat} {g : Nat → Nat → Nat} (hN : N = wd * hi) (h0 : 0 < N) (h : MakesPicOk w wd hi g e w') : MakesPW w wd hi N g e w' := by
  obtain ⟨a, c, bs, rfl, ho, hc, hb⟩ := h
  have hl := tab_len hc
  rw [← hN] at hl
  rw [hl] at ho
  obtain ⟨q, rfl⟩ := own_ptr ho (by omega)
  exact ⟨q, c, bs, by rw [hl], ⟨ho.sl, (ho.lt (k := q) rfl).2, hl⟩, hc, hb⟩
theorem vN {wd hi N : Nat} (hv : vPic wd hi N = true) : N = wd * hi ∧ 0 < N ∧ 0 < wd ∧ 0 < hi ∧ wd ≤ 24 ∧ hi ≤ 24 ∧ N ≤ 256 := by
  obtain ⟨x1, x2, e1, e2, e3, b1, b2, b3, b4, b5⟩ := vPic_spec hv
  have hN : N = wd * hi := by rw [e3]; congr 1 <;> omega
  exact ⟨hN, by rw [e3]; exact Nat.mul_pos b1 b3, by omega, by omega, by omega, by omega, by omega⟩

theorem box_pw (w : World) (wd hi N q c r : Nat) (ks : List Int) (hv : vPic wd hi N = true) (h : PW w q c N (ks.map (fq 2))) (hr : r ≤ 3) (hk : ∀ k ∈ ks, 0 ≤ k ∧ k ≤ 1000) :
    Calls Try.prog 9 #[.agg #[.int .i64 wd, .int .i64 hi, .slice (some ⟨q, 0, none⟩) N c], .int .i64 r] w (MakesPW w wd hi N (boxW ks wd hi r)) := by
  have k := box_ok w wd hi r (some ⟨q, 0, none⟩) c ks hr hk (h.ok hv)
  rw [h.len] at k
  exact k.mono fun e w' hh => hh.pw (vN hv).1 (vN hv).2.1
theorem mirror_pw (w : World) (wd hi N q c : Nat) (bs : List Nat) (hv : vPic wd hi N = true) (h : PW w q c N bs) :
    Calls Try.prog 13 #[.agg #[.int .i64 wd, .int .i64 hi, .slice (some ⟨q, 0, none⟩) N c]] w (MakesPW w wd hi N fun x y => fl (bs.getD (ix ((wd : Int) - 1 - x) y wd hi) 0)) := by
  have k := mirror_ok w wd hi (some ⟨q, 0, none⟩) c bs (h.ok hv)
  rw [h.len] at k
  exact k.mono fun e w' hh => hh.pw (vN hv).1 (vN hv).2.1
theorem halve_pw (w : World) (wd hi N A B M q c : Nat) (bs : List Nat) (hv : vPic wd hi N = true) (hA : A = (wd + 1) / 2) (hB : B = (hi + 1) / 2) (hM : vPic A B M = true) (h : PW w q c N bs) :
    Calls Try.prog 11 #[.agg #[.int .i64 wd, .int .i64 hi, .slice (some ⟨q, 0, none⟩) N c]] w (MakesPW w A B M (halfG bs wd hi)) := by
  subst hA hB
  have k := halve_ok w wd hi (some ⟨q, 0, none⟩) c bs (h.ok hv)
  rw [h.len] at k
  exact k.mono fun e w' hh => hh.pw (vN hM).1 (vN hM).2.1
theorem range_pw (w : World) (wd hi N q c : Nat) (bs : List Nat) (hv : vPic wd hi N = true) (h : PW w q c N bs) (hf : ∀ b ∈ bs, fin32 b = true) :
    Calls Try.prog 12 #[.agg #[.int .i64 wd, .int .i64 hi, .slice (some ⟨q, 0, none⟩) N c]] w fun e w' => e = .returned (.tuple #[.float .f32 (rwF bs).1, .float .f32 (rwF bs).2.1, .bool (rwF bs).2.2]) ∧ Below w.heap.size w w' := by
  have k := rangeOfP_w w wd hi (some ⟨q, 0, none⟩) c bs (h.ok hv) hf
  rw [h.len] at k
  exact k
theorem flat_pw (w : World) (wd hi N v : Nat) (hv : vPic wd hi N = true) (hlt : v < 4294967296) :
    Calls Try.prog 15 #[.int .i64 wd, .int .i64 hi, .float .f32 v] w (MakesPW w wd hi N fun _ _ => fl v) := by
  have hs : szOk wd hi = true := by unfold vPic at hv; simp only [Bool.and_eq_true] at hv; exact hv.1
  exact (flatP_ok w wd hi v hlt hs).mono fun e w' hh => hh.pw (vN hv).1 (vN hv).2.1
theorem same_pw (w : World) (wd hi N q c q2 c2 : Nat) (bs bs2 : List Nat) (h : PW w q c N bs) (h2 : PW w q2 c2 N bs2) (he : bs.map fl = bs2.map fl) :
    Calls Try.prog 17 #[.agg #[.int .i64 wd, .int .i64 hi, .slice (some ⟨q, 0, none⟩) N c], .agg #[.int .i64 wd, .int .i64 hi, .slice (some ⟨q2, 0, none⟩) N c2]] w fun e w' => e = .returned (.bool true) ∧ Below w.heap.size w w' :=
  samePicture_yes w wd hi _ _ N N c c2 bs bs2 h.sl h2.sl he
theorem pyramid_pw (w : World) (wd hi N q c : Nat) (bs : List Nat) (hv : vPic wd hi N = true) (h : PW w q c N bs) :
    Calls Try.prog 16 #[.agg #[.int .i64 wd, .int .i64 hi, .slice (some ⟨q, 0, none⟩) N c], .int .i64 3] w fun e w' => ∃ v, e = .returned (.tuple #[v, .bool true]) ∧ Pyr2 w w' wd hi bs v ∧ Below w.heap.size w w' := by
  have k := pyramid_ok w wd hi (some ⟨q, 0, none⟩) c bs (h.ok hv)
  rw [h.len] at k
  exact k
theorem unlike_pw (w : World) (wd hi N q c q2 c2 : Nat) (bs : List Nat) (near : Nat) (hv : vPic wd hi N = true) (h : PW w q c N bs) (h2 : PW w q2 c2 N bs) (hf : ∀ b ∈ bs, fin32 b = true) (hnr : le32 0 near = true) :
    Calls Try.prog 14 #[.agg #[.int .i64 wd, .int .i64 hi, .slice (some ⟨q, 0, none⟩) N c], .agg #[.int .i64 wd, .int .i64 hi, .slice (some ⟨q2, 0, none⟩) N c2], .float .f32 near] w fun e w' => e = .returned (.tuple #[.int .i64 0, .bool true]) ∧ Below w.heap.size w w' :=
  countUnlike_self w wd hi N q c q2 c2 bs near hv h.sl h2.sl hf h.len hnr
theorem PW.pb {w : World} {q c N : Nat} {bs : List Nat} {L H : Int} (h : PW w q c N bs) (hb : ∀ b ∈ bs, Bd L H b) : PB w q c N L H := ⟨bs, h.sl, h.len, hb, h.lt⟩
theorem PB.pw {w : World} {q c N : Nat} {L H : Int} (h : PB w q c N L H) : ∃ bs, PW w q c N bs ∧ ∀ b ∈ bs, Bd L H b := by
  obtain ⟨bs, h1, h2, h3, h4⟩ := h
  exact ⟨bs, ⟨h1, h4, h2⟩, h3⟩

/-- Words of quarters. -/
theorem exists_ks : ∀ bs : List Nat, (∀ b ∈ bs, ∃ k, k ≤ 16 ∧ b = qt k) → ∃ ks : List Int, bs = ks.map (fq 2) ∧ (∀ k ∈ ks, 0 ≤ k ∧ k ≤ 16)
  | [], _ => ⟨[], rfl, by simp⟩
  | b :: l, h => by
    obtain ⟨ks, e, hk⟩ := exists_ks l (fun x hx => h x (by simp [hx]))
    obtain ⟨k, k1, k2⟩ := h b (by simp)
    refine ⟨(k : Int) :: ks, ?_, ?_⟩
    · rw [List.map_cons, ← e, k2]
      congr 1
      have : ∀ k : Fin 65, qt k.val = fq 2 k.val := by decide +kernel
      exact this ⟨k, by omega⟩
    · intro x hx
      simp at hx
      rcases hx with rfl | hx
      · omega
      · exact hk x hx
/-- The range of quarters. -/
theorem range_q {ks : List Int} (h0 : 0 < ks.length) (hk : ∀ k ∈ ks, 0 ≤ k ∧ k ≤ 16) : ∃ L H : Int, (rwF (ks.map (fq 2))).1 = fq 2 L ∧ (rwF (ks.map (fq 2))).2.1 = fq 2 H ∧ (rwF (ks.map (fq 2))).2.2 = true ∧ 0 ≤ L ∧ L ≤ H ∧ H ≤ 16 ∧ ∀ i, i < ks.length → L ≤ ks.getD i 0 ∧ ks.getD i 0 ≤ H := by
  have hf : ∀ b ∈ ks.map (fq 2), fin32 b = true := by
    intro b hb
    obtain ⟨k, h1, rfl⟩ := List.mem_map.1 hb
    exact fq_fin (by have := hk k h1; omega)
  have hg : ∀ i, i < ks.length → (ks.map (fq 2)).getD i 0 = fq 2 (ks.getD i 0) ∧ 0 ≤ ks.getD i 0 ∧ ks.getD i 0 ≤ 16 := by
    intro i hi
    refine ⟨?_, ?_⟩
    · rw [List.getD_eq_getElem?_getD, List.getD_eq_getElem?_getD, List.getElem?_map, List.getElem?_eq_getElem hi]; rfl
    · rw [List.getD_eq_getElem?_getD, List.getElem?_eq_getElem hi]; exact hk _ (List.getElem_mem _)
  obtain ⟨g1, g2, g3, g4, g5⟩ := rw_inv (ks.map (fq 2)) hf (ks.map (fq 2)).length (Nat.le_refl _)
  rw [List.take_length] at g1 g2 g3 g4 g5
  rw [List.length_map] at g1 g4 g5
  obtain ⟨⟨j1, a1, a2⟩, ⟨j2, b1, b2⟩⟩ := g5 h0
  have e : (ks.map (fq 2)).foldl rwS (0, 0, false) = rwF (ks.map (fq 2)) := rfl
  rw [e] at g1 g4 a2 b2
  rw [(hg j1 a1).1] at a2
  rw [(hg j2 b1).1] at b2
  have hb : ∀ i, i < ks.length → ks.getD j1 0 ≤ ks.getD i 0 ∧ ks.getD i 0 ≤ ks.getD j2 0 := by
    intro i hi
    have := g4 i hi
    rw [a2, b2, (hg i hi).1] at this
    have k1 := hg i hi; have k2 := hg j1 a1; have k3 := hg j2 b1
    exact ⟨vv_mono' (by omega) (by omega) this.1, vv_mono' (by omega) (by omega) this.2⟩
  have k2 := hg j1 a1; have k3 := hg j2 b1
  exact ⟨ks.getD j1 0, ks.getD j2 0, a2, b2, by rw [g1]; simpa using h0, k2.2.1, (hb j2 b1).1, k3.2.2, hb⟩
theorem rw_bd {bs : List Nat} {L H : Int} (h0 : 0 < bs.length) (hb : ∀ b ∈ bs, Bd L H b) : Bd L H (rwF bs).1 ∧ Bd L H (rwF bs).2.1 ∧ (rwF bs).2.2 = true := by
  obtain ⟨g1, g2, g3, g4, g5⟩ := rw_inv bs (fun b hb' => (hb b hb').fin) bs.length (Nat.le_refl _)
  rw [List.take_length] at g1 g5
  obtain ⟨⟨j1, a1, a2⟩, ⟨j2, b1, b2⟩⟩ := g5 h0
  have e : bs.foldl rwS (0, 0, false) = rwF bs := rfl
  rw [e] at g1 a2 b2
  rw [a2, b2]
  exact ⟨(bd_get hb a1).1, (bd_get hb b1).1, by rw [g1]; simpa using h0⟩
theorem Bd.half {L H : Int} {bs : List Nat} {wd hi : Nat} (h : ∀ b ∈ bs, Bd L H b) (hl : bs.length = wd * hi) (hw : 0 < wd) (hh : 0 < hi) (h1 : 0 ≤ L) (h2 : L ≤ H) (h3 : H ≤ 1000) (x y : Nat) : Bd L H (halfG bs wd hi x y) := by
  have k := fun X Y => bd_get h (i := ix X Y wd hi) (by rw [hl]; exact ix_lt _ _ hw hh)
  unfold halfG hsum
  rw [(k _ _).2, (k _ _).2, (k _ _).2, (k _ _).2, ← four_fq]
  have a1 := (k (2 * (x : Int)) (2 * (y : Int))).1.fopAdd (k (2 * (x : Int) + 1) (2 * (y : Int))).1 h1 (by omega) h1 (by omega) h2 h2
  have a2 := a1.fopAdd (k (2 * (x : Int)) (2 * (y : Int) + 1)).1 (by omega) (by omega) h1 (by omega) (by omega) h2
  have a3 := a2.fopAdd (k (2 * (x : Int) + 1) (2 * (y : Int) + 1)).1 (by omega) (by omega) h1 (by omega) (by omega) h2
  exact Bd.fopQuo (by rw [show 4 * L = L + L + L + L by omega, show 4 * H = H + H + H + H by omega]; exact a3) h1 (by omega) (by omega) (by omega) h2
theorem half_congr {bs cs : List Nat} (h : bs.map fl = cs.map fl) (wd hi x y : Nat) : halfG bs wd hi x y = halfG cs wd hi x y := by
  have hl : bs.length = cs.length := by have := congrArg List.length h; simpa using this
  have e : ∀ i, fl (bs.getD i 0) = fl (cs.getD i 0) := by
    intro i
    have := congrArg (fun l => l.getD i (fl 0)) h
    simp only [List.getD_eq_getElem?_getD, List.getElem?_map] at this
    rw [List.getD_eq_getElem?_getD, List.getD_eq_getElem?_getD]
    cases h1 : bs[i]? <;> cases h2 : cs[i]? <;> rw [h1, h2] at this <;> simpa using this
  unfold halfG
  rw [e, e, e, e]
theorem words_eq {bs cs : List Nat} (h : bs.map fl = cs.map fl) (hb : ∀ b ∈ bs, nan32 b = false) : bs = cs := by
  have hl : bs.length = cs.length := by have := congrArg List.length h; simpa using this
  apply List.ext_getElem hl
  intro i h1 h2
  have e : fl bs[i] = fl cs[i] := by
    have := congrArg (fun l => l[i]?) h
    simp only [List.getElem?_map, List.getElem?_eq_getElem h1, List.getElem?_eq_getElem h2] at this
    simpa using this
  have n1 := hb _ (List.getElem_mem h1)
  have n2 : nan32 cs[i] = false := by rw [← nan32_fl, ← e, nan32_fl]; exact n1
  rwa [fl_eq n1, fl_eq n2] at e
/-- Boxes of a mirrored picture, mirrored. -/
theorem box_back {ks : List Int} {wd hi N r : Nat} {bs1 bs2 bs3 bs0 : List Nat} (hv : vPic wd hi N = true) (hl : ks.length = N) (hk : ∀ k ∈ ks, 0 ≤ k ∧ k ≤ 16)
    (h0 : bs0.map fl = tab (hi * wd) fun i => boxW ks wd hi r (i % wd) (i / wd))
    (h2 : bs2.map fl = tab (hi * wd) fun i => boxW (mirK ks wd hi) wd hi r (i % wd) (i / wd))
    (h3 : bs3.map fl = tab (hi * wd) fun i => (fun x y => fl (bs2.getD (ix ((wd : Int) - 1 - (x : Nat)) (y : Nat) wd hi) 0)) (i % wd) (i / wd)) (hr : r ≤ 3) : bs3.map fl = bs0.map fl := by
  obtain ⟨e1, e2, e3, e4, e5, e6, e7⟩ := vN hv
  rw [h3, h0]
  unfold tab
  apply List.map_congr_left
  intro i hi_
  have hi2 := List.mem_range.1 hi_
  have hx := Nat.mod_lt i e3
  have hy : i / wd < hi := (Nat.div_lt_iff_lt_mul e3).2 hi2
  generalize i % wd = x at *
  generalize i / wd = y at *
  have hx' : wd - 1 - x < wd := by omega
  have hix : ix ((wd : Int) - 1 - (x : Nat)) (y : Nat) wd hi = (wd - 1 - x) + wd * y := by
    rw [show ((wd : Int) - 1 - (x : Nat)) = ((wd - 1 - x : Nat) : Int) by omega]
    exact ix_in hx' hy
  show fl (bs2.getD (ix ((wd : Int) - 1 - (x : Nat)) (y : Nat) wd hi) 0) = boxW ks wd hi r x y
  rw [hix, tab_at (F := fun i => boxW (mirK ks wd hi) wd hi r (i % wd) (i / wd)) h2 hx' hy]
  show boxW (mirK ks wd hi) wd hi r (((wd - 1 - x) + wd * y) % wd) (((wd - 1 - x) + wd * y) / wd) = _
  rw [md1 hx', md2 hx']
  unfold boxW
  rw [winS_mirror ks e3 e4 _ _ _ hx', show wd - 1 - (wd - 1 - x) = x by omega]
theorem mir_words {ks : List Int} {wd hi N : Nat} {bs1 : List Nat} (hv : vPic wd hi N = true) (hl : ks.length = N) (hk : ∀ k ∈ ks, 0 ≤ k ∧ k ≤ 16)
    (h1 : bs1.map fl = tab (hi * wd) fun i => (fun x y => fl ((ks.map (fq 2)).getD (ix ((wd : Int) - 1 - (x : Nat)) (y : Nat) wd hi) 0)) (i % wd) (i / wd)) : bs1 = (mirK ks wd hi).map (fq 2) := by
  obtain ⟨e1, e2, e3, e4, e5, e6, e7⟩ := vN hv
  have hb : ∀ i, (ks.getD i 0).natAbs ≤ 16777216 := by
    intro i
    rw [List.getD_eq_getElem?_getD]
    cases e : ks[i]? with
    | none => decide
    | some z => have := hk z (List.mem_of_getElem? e); show z.natAbs ≤ _; omega
  unfold mirK
  refine bs_of_tab (fun i _ => hb _) ?_
  rw [h1]
  unfold tab
  apply List.map_congr_left
  intro i hi_
  have hi2 := List.mem_range.1 hi_
  have hx := Nat.mod_lt i e3
  have hy : i / wd < hi := (Nat.div_lt_iff_lt_mul e3).2 hi2
  have hm : (i % wd + wd * (i / wd)) % wd = i % wd := md1 hx
  have hd : (i % wd + wd * (i / wd)) / wd = i / wd := md2 hx
  dsimp only
  rw [hm, hd]
  have hlt : ix ((wd : Int) - 1 - (i % wd : Nat)) (i / wd : Nat) wd hi < ks.length := by rw [hl, e1]; exact ix_lt _ _ e3 e4
  have e : (ks.map (fq 2)).getD (ix ((wd : Int) - 1 - (i % wd : Nat)) (i / wd : Nat) wd hi) 0 = fq 2 (ks.getD (ix ((wd : Int) - 1 - (i % wd : Nat)) (i / wd : Nat) wd hi) 0) := by
    rw [List.getD_eq_getElem?_getD, List.getD_eq_getElem?_getD, List.getElem?_map, List.getElem?_eq_getElem hlt]; rfl
  rw [e, fl_fq (hb _)]

/-- A thousandth in 64 bits. -/
theorem milli64 : fin64 4562254508917369340 = true ∧ 0 ≤ vd 4562254508917369340 ∧ vd 4562254508917369340 ≤ vd (dq 2 4) := by decide +kernel
/-- What lies between is not a thousandth less, nor a thousandth more. -/
theorem near64 {L H : Int} {a b : Nat} (ha : Bd L H a) (hb : Bd L H b) (h1 : 0 ≤ L) (h2 : L ≤ H) (h3 : H ≤ 1000) : ∃ da db dl dh t1 t2, floatToFloatBits .f32 a .f64 = some da ∧ floatToFloatBits .f32 b .f64 = some db ∧ floatToFloatBits .f32 (fq 2 L) .f64 = some dl ∧ floatToFloatBits .f32 (fq 2 H) .f64 = some dh ∧
    floatBits .sub .f64 dl 4562254508917369340 = some t1 ∧ floatBits .add .f64 dh 4562254508917369340 = some t2 ∧ lt64 da t1 = false ∧ lt64 t2 db = false := by
  obtain ⟨m1, m2, m3⟩ := milli64
  obtain ⟨da, a1, a2, a3, a4⟩ := wide_vd ha.fin
  obtain ⟨db, b1, b2, b3, b4⟩ := wide_vd hb.fin
  have wl := fq_wide (g := 2) (by decide) (k := L) (by omega)
  have wh := fq_wide (g := 2) (by decide) (k := H) (by omega)
  have p := pow_pos_int (1074 - 2)
  obtain ⟨t1, c1, c2, c3, c4, c5⟩ := sub_bd64 (a := dq 2 L) (b := 4562254508917369340) (lo := dq 2 (L - 4)) (hi := dq 2 L) (dq_fin (by omega)) m1 (dq_fin (by omega)) (dq_fin (by omega))
    (by rw [vd_dq (by decide)] at m3; rw [vd_dq (by omega), vd_dq (by omega), Int.sub_mul]; omega) (by omega)
  obtain ⟨t2, d1, d2, d3, d4, d5⟩ := add_bd64 (a := dq 2 H) (b := 4562254508917369340) (lo := dq 2 H) (hi := dq 2 (H + 4)) (dq_fin (by omega)) m1 (dq_fin (by omega)) (dq_fin (by omega))
    (by omega) (by rw [vd_dq (by decide)] at m3; rw [vd_dq (by omega), vd_dq (by omega), Int.add_mul]; omega)
  have hkw : ∀ k : Int, k.natAbs ≤ 1000000 → vd (dq 2 k) = vv (fq 2 k) * ((2 ^ kw : Nat) : Int) := by
    intro k hk
    obtain ⟨dk, e1, e2, e3, e4⟩ := wide_vd (fq_fin (g := 2) (k := k) (by omega))
    rw [fq_wide (g := 2) (by decide) (k := k) (by omega)] at e1
    injection e1 with e1
    rw [e1]; exact e4
  have pk := pow_pos_int kw
  refine ⟨da, db, dq 2 L, dq 2 H, t1, t2, a1, b1, wl, wh, c1, d1, ?_, ?_⟩
  · rw [lt64_vd a2 c2]
    have := Int.mul_le_mul_of_nonneg_right ha.lo (Int.le_of_lt pk)
    rw [hkw L (by omega)] at c5
    simp only [decide_eq_false_iff_not]; omega
  · rw [lt64_vd d2 b2]
    have := Int.mul_le_mul_of_nonneg_right hb.hi (Int.le_of_lt pk)
    rw [hkw H (by omega)] at d4
    simp only [decide_eq_false_iff_not]; omega

/-- A row of pictures of the call's own. -/
def OwnP (W : World) (B : Nat) (v : Value) (n : Nat) (cs : List Value) : Prop := W.ownsRow B 26 3 v n cs
theorem OwnP.below {W W' : World} {B n g cap m : Nat} {cs : List Value} (h : OwnP W B (.slice (some ⟨g, 0, none⟩) m cap) n cs) (hb : Below W.heap.size W W') : OwnP W' B (.slice (some ⟨g, 0, none⟩) m cap) n cs :=
  World.ownsRow.kept h (grown_below hb none) (.inr (by simp [Value.ownBlock]))
theorem OwnP.cellAt {W : World} {B n g cap m : Nat} {cs : List Value} (h : OwnP W B (.slice (some ⟨g, 0, none⟩) m cap) n cs) (i : Nat) (x : Value) (hx : cs[i]? = some x) : W.cell? ⟨g, i, none⟩ = some x := by
  have := World.ownsRow.cells (g := g) h rfl i x hx
  by_cases h0 : i = 0
  · subst h0; simpa [Addr.add] using this
  · simpa [Addr.add, h0] using this
theorem Apart.pw {W : World} {g wd hi q c N : Nat} {bs : List Nat} (h : Apart W g wd hi q c bs) (hN : N = wd * hi) : PW W q c N bs := ⟨by have := h.ok.sl; rw [h.ok.len, ← hN] at this; exact this, h.lt, by rw [h.ok.len, hN]⟩
theorem flat_eq {bs cs : List Nat} {N : Nat} (h1 : bs.length = N) (h2 : cs.length = N) (hb : ∀ b ∈ bs, Bd 6 6 b) (hc : ∀ b ∈ cs, Bd 6 6 b) : bs.map fl = cs.map fl := by
  have e1 : bs = List.replicate N (fq 2 6) := List.eq_replicate_iff.2 ⟨h1, fun b hb' => (hb b hb').one (by decide) (by decide)⟩
  have e2 : cs = List.replicate N (fq 2 6) := List.eq_replicate_iff.2 ⟨h2, fun b hb' => (hc b hb').one (by decide) (by decide)⟩
  rw [e1, e2]

end Go.Proofs.Ytialajgobpokmaa
