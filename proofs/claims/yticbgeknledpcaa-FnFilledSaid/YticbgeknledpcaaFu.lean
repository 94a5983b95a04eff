/- A round of filling: impl.filled, with its counter. -/
import Derived.Test.YticbgeknledpcaaFt
namespace Go.Proofs.Yticbgeknledpcaa
open Go.RowKit
set_option maxRecDepth 100000
set_option linter.unusedVariables false
set_option linter.unusedSimpArgs false

theorem PicAt.grownC {W W' : World} {pb wd hi cb q n c : Nat} {bs : List Nat} {T : TypeId} (h : PicAt W pb wd hi (.slice (some ⟨q, 0, none⟩) n c) bs T) (hg : W.grownBy W' (some cb)) (h1 : pb ≠ cb) (h2 : q ≠ cb) : PicAt W' pb wd hi (.slice (some ⟨q, 0, none⟩) n c) bs T :=
  ⟨h.box.grown hg (by simpa using h1), ⟨h.sl.1.grown hg (.inr (by simpa [Value.ownBlock] using h2)), h.sl.2⟩, h.len⟩
theorem tab_len2 {bs : List Nat} {n : Nat} {g : Nat → Nat} (h : bs.map fl = tab n g) : bs.length = n := by
  have := congrArg List.length h; simpa [tab_length] using this

theorem mapOf_c (w : World) (wd hi cb : Nat) (T : TypeId) (fv : Value) (g : Nat → Nat → Nat) (cv : Nat → Value) (hw : wd ≤ 24) (hh : hi ≤ 24) (hf : GivesC (w.alloc (.cells #[.int .i64 0, .int .i64 0, .slice none 0 0] 26)) fv wd hi cb T g cv) (hc0 : BoxN w cb #[cv 0] T) :
    Calls Try.prog 71 #[.int .i64 wd, .int .i64 hi, fv] w (MakesPicC w wd hi cb T g cv) := by
  have ha := alb1 w (.cells #[.int .i64 0, .int .i64 0, .slice none 0 0] 26)
  have B := box_last w (.int .i64 0) (.int .i64 0) (.slice none 0 0) 26
  have hcb := hc0.lt
  have K := Lib.hid (made_c _ wd hi cb T fv g cv hw hh hf (hc0.below ha))
  have HB := Lib.hid B
  have HA := Lib.hid ha
  clear B ha hf
  go_enter Try.func71, Try.ntmps71
  go_wp2_with fail
  refine K.out.mono ?_
  rintro e w2 ⟨a, c, bs, rfl, hown, hcon, hgr, hcb2⟩
  obtain ⟨d0, d1, d2, g0, g1, g2⟩ := (HB.out.grown hgr (by simp; omega)).cells
  have hz : w.heap.size < w2.heap.size := by have := hgr.size; simp at this; omega
  have hgg : w.grownBy w2 (some cb) := grown_trans (grown_below HA.out _) hgr
  go_wp2
  refine bodyPost_ret (v := .agg #[.int .i64 wd, .int .i64 hi, .slice a bs.length c]) (by simp [results, Try.results71, go_sem, d0, d1, d2, hz]) rfl ?_
  refine ⟨a, c, bs, rfl, (((hown.set (by first | omega | (simp; done) | (simp; omega)) _).set (by first | omega | (simp; done) | (simp; omega)) _).set (by first | omega | (simp; done) | (simp; omega)) _).mono (by first | omega | (simp; done) | (simp; omega)), hcon, grown_new2 (grown_new2 (grown_new2 hgg (grown_setCell _ _ _) (fun k hk => by injection hk with e; simp at e; omega)) (grown_setCell _ _ _) (fun k hk => by injection hk with e; simp at e; omega)) (grown_setCell _ _ _) (fun k hk => by injection hk with e; simp at e; omega), ((hcb2.grown (grown_setCell _ _ _) (by simp; omega)).grown (grown_setCell _ _ _) (by simp; omega)).grown (grown_setCell _ _ _) (by simp; omega)⟩

theorem bd_noHole {L H : Int} {b : Nat} (h : Bd L H b) (h1 : 0 ≤ L) (h3 : L ≤ 1000) : le32 0 b = true := by
  have z : (0 : Nat) = fq 2 0 := (fq_zero _).symm
  rw [z, le32_vv (fq_fin (by decide)) h.fin]
  have := vv_mono (a := 0) (b := L) (by decide) (by omega) h1
  have := h.lo
  simp; omega
theorem neg_hole : le32 0 3212836864 = false := by decide +kernel
theorem sumW_full {ls : List Nat} {L H : Int} (h : ∀ b ∈ ls, Bd L H b) (h1 : 0 ≤ L) (h2 : L ≤ H) (h3 : H ≤ 1000) (hn : ls.length ≤ 4) (h0 : ls.length ≠ 0) : Bd L H (fop .quo (sumW ls) (fq 0 ls.length)) := by
  obtain ⟨k, hk⟩ : ∃ k, ls.length = k + 1 := ⟨ls.length - 1, by omega⟩
  have hb := sumW_bd h h1 h2 h3 hn k (by omega)
  rw [← hk, List.take_length] at hb
  obtain ⟨r, e1, e2⟩ := hb.quo' h1 h2 h3 (by omega)
  rw [hk, show (((k + 1 : Nat)) : Int) = (k : Int) + 1 by omega, fop_of' e1 e2.fl]
  exact e2
theorem besL_bd {bs : List Nat} {wd hi : Nat} {L H : Int} (hl : bs.length = wd * hi) (hb : ∀ b ∈ bs, b = 3212836864 ∨ Bd L H b) {x y : Int} {b : Nat} (i : Nat) (h : b ∈ besL bs wd hi x y i) : Bd L H b := by
  obtain ⟨k, e1, e2, e3⟩ := besL_mem i h
  unfold besOk at e2
  rw [Bool.and_eq_true] at e2
  obtain ⟨e2, e4⟩ := e2
  obtain ⟨k1, k2, k3, k4⟩ := inB_cell e2
  have : b ∈ bs := by rw [e3]; unfold besW; rw [List.getD_eq_getElem?_getD, List.getElem?_eq_getElem (by rw [hl]; exact xy_lt k3 k4)]; exact List.getElem_mem _
  rcases hb b this with e | e
  · rw [← e3, e] at e4; exact absurd e4 (by decide +kernel)
  · exact e
/-- What a round makes of a cell. -/
theorem fillW_or {bs : List Nat} {wd hi x y : Nat} {L H : Int} (hl : bs.length = wd * hi) (hb : ∀ b ∈ bs, b = 3212836864 ∨ Bd L H b) (h1 : 0 ≤ L) (h2 : L ≤ H) (h3 : H ≤ 1000) (hx : x < wd) (hy : y < hi) :
    (le32 0 (bs.getD (x + wd * y) 0) = true ∧ Bd L H (bs.getD (x + wd * y) 0) ∧ fillW bs wd hi x y = bs.getD (x + wd * y) 0) ∨
    (le32 0 (bs.getD (x + wd * y) 0) = false ∧ bs.getD (x + wd * y) 0 = 3212836864 ∧ (besL bs wd hi x y 4).length = 0 ∧ fillW bs wd hi x y = 3212836864) ∨
    (le32 0 (bs.getD (x + wd * y) 0) = false ∧ bs.getD (x + wd * y) 0 = 3212836864 ∧ (besL bs wd hi x y 4).length ≠ 0 ∧ Bd L H (fillW bs wd hi x y)) := by
  have hm : bs.getD (x + wd * y) 0 ∈ bs := by rw [List.getD_eq_getElem?_getD, List.getElem?_eq_getElem (by rw [hl]; exact xy_lt hx hy)]; exact List.getElem_mem _
  rcases hb _ hm with e | e
  · have e4 : le32 0 (bs.getD (x + wd * y) 0) = false := by rw [e]; exact neg_hole
    have e5 : ¬ le32 0 (bs.getD (x + wd * y) 0) = true := by rw [e4]; decide
    have e1 : fillW bs wd hi x y = if (besL bs wd hi x y 4).length = 0 then 3212836864 else fop .quo (sumW (besL bs wd hi x y 4)) (fq 0 (besL bs wd hi x y 4).length) := by unfold fillW; exact if_neg e5
    by_cases h0 : (besL bs wd hi x y 4).length = 0
    · exact .inr (.inl ⟨e4, e, h0, by rw [e1, if_pos h0]⟩)
    · exact .inr (.inr ⟨e4, e, h0, by rw [e1, if_neg h0]; exact sumW_full (fun b hb' => besL_bd hl hb 4 hb') h1 h2 h3 (besL_le _ _ _ _ _ 4) h0⟩)
  · have e4 := bd_noHole e h1 (by omega)
    exact .inl ⟨e4, e, by unfold fillW; exact if_pos e4⟩
theorem fillW_ok {bs : List Nat} {wd hi x y : Nat} {L H : Int} (hl : bs.length = wd * hi) (hb : ∀ b ∈ bs, b = 3212836864 ∨ Bd L H b) (h1 : 0 ≤ L) (h2 : L ≤ H) (h3 : H ≤ 1000) (hx : x < wd) (hy : y < hi) : fillW bs wd hi x y = 3212836864 ∨ Bd L H (fillW bs wd hi x y) := by
  rcases fillW_or hl hb h1 h2 h3 hx hy with ⟨a, b, c⟩ | ⟨a, b, c, d⟩ | ⟨a, b, c, d⟩
  · rw [c]; exact .inr b
  · exact .inl d
  · exact .inr d

/-- How many holes a round has filled, cell by cell. -/
def cntW (bs : List Nat) (wd hi : Nat) : Nat → Nat
  | 0 => 0
  | m + 1 => cntW bs wd hi m + (if le32 0 (bs.getD m 0) = false ∧ (besL bs wd hi ((m % wd : Nat) : Int) ((m / wd : Nat) : Int) 4).length ≠ 0 then 1 else 0)
theorem cntW_le (bs : List Nat) (wd hi : Nat) : ∀ m, cntW bs wd hi m ≤ m := by
  intro m
  induction m with
  | zero => simp [cntW]
  | succ m ih => unfold cntW; split <;> omega

/-- A map of values between quarters, and holes. -/
structure WM (W : World) (q c N : Nat) (L H : Int) (bs : List Nat) : Prop where
  sl : SlF W (.slice (some ⟨q, 0, none⟩) N c) bs
  lt : q < W.heap.size
  len : bs.length = N
  ok : ∀ b ∈ bs, b = 3212836864 ∨ Bd L H b
theorem WM.below {W W' : World} {q c N : Nat} {L H : Int} {bs : List Nat} (h : WM W q c N L H bs) (hb : Below W.heap.size W W') : WM W' q c N L H bs := ⟨h.sl.below hb, Nat.lt_of_lt_of_le h.lt hb.size, h.len, h.ok⟩
theorem WM.set {W : World} {q c N ob i : Nat} {L H : Int} {bs : List Nat} (h : WM W q c N L H bs) (hne : ob ≠ q) (v : Value) : WM (W.setCell ⟨ob, i, none⟩ v) q c N L H bs :=
  ⟨⟨h.sl.1.grown (grown_setCell _ _ _) (.inr (by simpa [Value.ownBlock] using (Ne.symm hne))), h.sl.2⟩, by simpa using h.lt, h.len, h.ok⟩

theorem filled_gives {W0 : World} {pb cb wd hi q n c : Nat} {bs : List Nat} {L H : Int} (h : PicAt W0 pb wd hi (.slice (some ⟨q, 0, none⟩) n c) bs 26) (hb : ∀ b ∈ bs, b = 3212836864 ∨ Bd L H b) (h1 : 0 ≤ L) (h2 : L ≤ H) (h3 : H ≤ 1000)
    (hw0 : 0 < wd) (hw2 : wd ≤ 24) (hh2 : hi ≤ 24) (n1 : pb ≠ cb) (n2 : q ≠ cb) :
    GivesC W0 (.func (.func 72) #[] #[.pointer (some ⟨pb, 0, none⟩), .pointer (some ⟨cb, 0, none⟩)]) wd hi cb 3 (fun x y => fl (fillW bs wd hi x y)) (fun m => .int .i64 (cntW bs wd hi m : Nat)) := by
  refine ⟨72, _, rfl, Try.call72, fun x y W hx hy hg hc => ?_⟩
  have hmul : y * wd + x ≤ 1000 := by
    have : y * wd ≤ 24 * 24 := Nat.mul_le_mul (by omega) hw2
    omega
  have hcn := cntW_le bs wd hi (y * wd + x)
  refine (filled1_q W pb cb wd hi _ bs L H x y (cntW bs wd hi (y * wd + x)) hx hy hw2 hh2 (h.grownC hg n1 n2) hb h1 h2 h3 hc (by omega)).mono ?_
  rintro e w' ⟨rfl, g1, g2⟩
  refine ⟨_, rfl, ?_, rfl, g1, ?_⟩
  · rcases fillW_ok h.len hb h1 h2 h3 hx hy with e | e
    · rw [e]; decide
    · exact e.lt
  · have e1 : (y * wd + x) % wd = x := by rw [Nat.mul_comm, Nat.mul_add_mod, Nat.mod_eq_of_lt hx]
    have e2 : (y * wd + x) / wd = y := by rw [Nat.mul_comm, Nat.mul_add_div (by omega), Nat.div_eq_of_lt hx, Nat.add_zero]
    have e3 : cntW bs wd hi (y * wd + x + 1) = cntW bs wd hi (y * wd + x) + (if le32 0 (bs.getD (x + wd * y) 0) = false ∧ (besL bs wd hi x y 4).length ≠ 0 then 1 else 0) := by
      show cntW bs wd hi (y * wd + x) + _ = _
      rw [e1, e2, show y * wd + x = x + wd * y by rw [Nat.mul_comm]; omega]
    show BoxN w' cb #[.int .i64 ((cntW bs wd hi (y * wd + x + 1) : Nat) : Int)] 3
    rw [e3]
    exact g2

/-- A map after a round, and how many holes it filled. -/
def fillN (bs : List Nat) (wd hi N : Nat) : List Nat := (List.range N).map fun i => fillW bs wd hi (i % wd) (i / wd)
theorem fillN_len (bs : List Nat) (wd hi N : Nat) : (fillN bs wd hi N).length = N := by simp [fillN]
theorem fillN_get {bs : List Nat} {wd hi N i : Nat} (h : i < N) : (fillN bs wd hi N).getD i 0 = fillW bs wd hi (i % wd) (i / wd) := by
  unfold fillN; rw [List.getD_eq_getElem?_getD, List.getElem?_map, List.getElem?_range h]; rfl

theorem fillN_of {bs cs : List Nat} {wd hi N : Nat} {L H : Int} (hN : N = wd * hi) (hl : bs.length = wd * hi) (hw0 : 0 < wd) (hb : ∀ b ∈ bs, b = 3212836864 ∨ Bd L H b) (h1 : 0 ≤ L) (h2 : L ≤ H) (h3 : H ≤ 1000) (h : cs.map fl = tab (hi * wd) fun i => fl (fillW bs wd hi (i % wd) (i / wd))) : cs = fillN bs wd hi N := by
  have hlen := tab_len2 h
  rw [Nat.mul_comm, ← hN] at hlen
  apply List.ext_getElem
  · rw [hlen, fillN_len]
  · intro i k1 k2
    have h4 := congrArg (fun l => l[i]?) h
    have hi1 : i < wd * hi := by omega
    simp only [List.getElem?_map, tab] at h4
    rw [List.getElem?_eq_getElem k1, List.getElem?_range (by rw [Nat.mul_comm]; omega)] at h4
    simp only [Option.map_some, Option.some.injEq] at h4
    have hy : i / wd < hi := Nat.div_lt_of_lt_mul hi1
    have hn : nan32 (fillW bs wd hi (i % wd) (i / wd)) = false := by
      rcases fillW_ok hl hb h1 h2 h3 (Nat.mod_lt i hw0) hy with e | e
      · rw [e]; decide
      · exact e.nan
    have e1 : fl (fillW bs wd hi (i % wd) (i / wd)) = fillW bs wd hi (i % wd) (i / wd) := fl_eq hn
    rw [e1] at h4
    have e2 : fl cs[i] = cs[i] := fl_eq (by rw [← nan32_fl, h4]; exact hn)
    rw [← e2, h4]
    simp [fillN]
theorem fillN_ok {bs : List Nat} {wd hi N : Nat} {L H : Int} (hN : N = wd * hi) (hl : bs.length = wd * hi) (hw0 : 0 < wd) (hb : ∀ b ∈ bs, b = 3212836864 ∨ Bd L H b) (h1 : 0 ≤ L) (h2 : L ≤ H) (h3 : H ≤ 1000) : ∀ b ∈ fillN bs wd hi N, b = 3212836864 ∨ Bd L H b := by
  intro b hb'
  obtain ⟨i, hi_, rfl⟩ := List.mem_map.1 hb'
  have hlt := List.mem_range.1 hi_
  exact fillW_ok hl hb h1 h2 h3 (Nat.mod_lt i hw0) (Nat.div_lt_of_lt_mul (by omega))

def MakesFill (w : World) (wd hi N : Nat) (L H : Int) (bs : List Nat) (e : Ending) (w' : World) : Prop :=
  ∃ q c, e = .returned (.tuple #[.agg #[.int .i64 wd, .int .i64 hi, .slice (some ⟨q, 0, none⟩) N c], .int .i64 (cntW bs wd hi N : Nat)]) ∧ WM w' q c N L H (fillN bs wd hi N) ∧ w.heap.size ≤ q ∧ Below w.heap.size w w'

set_option maxHeartbeats 1000000 in
theorem filled_q (w : World) (wd hi N q c : Nat) (L H : Int) (bs : List Nat) (hv : vPic wd hi N = true) (h : WM w q c N L H bs) (h1 : 0 ≤ L) (h2 : L ≤ H) (h3 : H ≤ 1000) :
    Calls Try.prog 42 #[.agg #[.int .i64 wd, .int .i64 hi, .slice (some ⟨q, 0, none⟩) N c]] w (MakesFill w wd hi N L H bs) := by
  obtain ⟨e1, d1, d3, d2, d4, e6, e7⟩ := vPic_mul hv
  obtain ⟨W0, hW0⟩ : ∃ W0, W0 = (((w.alloc (.cells #[.int .i64 wd, .int .i64 hi, .slice (some ⟨q, 0, none⟩) N c] 26)).alloc (.cells #[.int .i64 0, .int .i64 0, .slice none 0 0] 26)).alloc (.cells #[.int .i64 0] 3)) := ⟨_, rfl⟩
  have hb0 : Below w.heap.size w W0 := by rw [hW0]; exact ((alb1 w _).alloc (by simp) _).alloc (by simp; omega) _
  have X1 : Box3 W0 w.heap.size (.int .i64 wd) (.int .i64 hi) (.slice (some ⟨q, 0, none⟩) N c) 26 := by rw [hW0]; exact ((box_last w _ _ _ _).below (alb1 _ _)).below (alb1 _ _)
  have X2 : Box3 W0 (w.heap.size + 1) (.int .i64 0) (.int .i64 0) (.slice none 0 0) 26 := by rw [hW0]; have := (box_last (w.alloc (.cells #[.int .i64 wd, .int .i64 hi, .slice (some ⟨q, 0, none⟩) N c] 26)) (.int .i64 0) (.int .i64 0) (.slice none 0 0) 26).below (alb1 _ (.cells #[.int .i64 0] 3)); simpa using this
  have X3 : BoxN W0 (w.heap.size + 2) #[.int .i64 0] 3 := by rw [hW0]; have := BoxN.last ((w.alloc (.cells #[.int .i64 wd, .int .i64 hi, .slice (some ⟨q, 0, none⟩) N c] 26)).alloc (.cells #[.int .i64 0, .int .i64 0, .slice none 0 0] 26)) #[.int .i64 0] 3; simpa using this
  have hsz : W0.heap.size = w.heap.size + 3 := by rw [hW0]; simp
  have hq := h.lt
  have hPW := h.below hb0
  have ha := alb1 W0 (.cells #[.int .i64 0, .int .i64 0, .slice none 0 0] 26)
  have M1 : PicAt W0 w.heap.size wd hi (.slice (some ⟨q, 0, none⟩) N c) bs 26 := ⟨X1, hPW.sl, by rw [hPW.len]; exact e1⟩
  have hgv := filled_gives (cb := w.heap.size + 2) (M1.below ha) h.ok h1 h2 h3 d1 d3 d4 (by omega) (by omega)
  have K := Lib.hid (mapOf_c W0 wd hi (w.heap.size + 2) 3 _ _ _ d3 d4 hgv X3)
  obtain ⟨c0, c1, c2, -, -, -⟩ := X1.cells
  have HW0 := Lib.hid hW0
  have HX2 := Lib.hid X2
  have HB0 := Lib.hid hb0
  have HE1 := Lib.hid e1
  have HLEN := Lib.hid (show bs.length = wd * hi by rw [h.len]; exact e1)
  have HOK := Lib.hid h.ok
  clear e1 h hPW M1 hgv ha X2 X3 hb0 X1
  go_enter Try.func42, Try.ntmps42
  go_wp2_with fail
  rw [← HW0.out]
  refine K.out.mono ?_
  rintro e w3 ⟨a, cc, cs, rfl, hown, hcon, hgr, hcb⟩
  have hlen := tab_len2 hcon
  rw [Nat.mul_comm, ← HE1.out] at hlen
  rw [hlen] at hown ⊢
  rw [Nat.mul_comm, ← HE1.out] at hcb
  obtain ⟨q2, rfl⟩ := own_ptr hown (by omega)
  have z0 : w3.cell? ⟨w.heap.size + 1 + 1, 0, none⟩ = some (.int .i64 (cntW bs wd hi N : Nat)) := hcb.cell 0
  have hs3 := hgr.size
  have X2 := HX2.out.grown hgr (by simp)
  obtain ⟨R0, R1, R2, S0, S1, S2⟩ := X2.cells
  have hbel3 : Below w.heap.size w w3 := HB0.out.grown hgr (by have := HB0.out.size; omega) (fun k hk => by injection hk with e; omega)
  have hqB := hown.lt (k := q2) rfl
  have Z0 : ∀ o, (w3.alloc o).cell? ⟨w.heap.size + 1 + 1, 0, none⟩ = some (.int .i64 (cntW bs wd hi N : Nat)) := fun o => (hcb.below (alb1 w3 o)).cell 0
  have hl4 : w.heap.size + 1 < w3.heap.size := by omega
  have hl5 : w.heap.size + 1 + 1 < w3.heap.size := by omega
  generalize hcw : cntW bs wd hi N = cw at *
  have HCW := Lib.hid hcw
  clear hcw
  have HCON := Lib.hid hcon
  have HOWN := Lib.hid hown
  have HB3 := Lib.hid hbel3
  have HL := Lib.hid hlen
  clear hcon hown hgr hcb K X2 hbel3 hlen c0 c1 c2 hW0
  have hbA := alb1 w3 (.cells #[.int .i64 wd, .int .i64 hi, .slice (some ⟨q2, 0, none⟩) N cc] 26)
  have XA := box_last w3 (.int .i64 wd) (.int .i64 hi) (.slice (some ⟨q2, 0, none⟩) N cc) 26
  have hA0 := Z0 (.cells #[.int .i64 wd, .int .i64 hi, .slice (some ⟨q2, 0, none⟩) N cc] 26)
  have hA1 : ∀ p : Addr, p.block < w3.heap.size → (w3.alloc (.cells #[.int .i64 wd, .int .i64 hi, .slice (some ⟨q2, 0, none⟩) N cc] 26)).cell? p = w3.cell? p := fun p hp => hbA.cell hp
  have hA2 : ∀ p : Addr, p.block < w3.heap.size → (w3.alloc (.cells #[.int .i64 wd, .int .i64 hi, .slice (some ⟨q2, 0, none⟩) N cc] 26)).frozen? p = w3.frozen? p := fun p hp => hbA.frozen hp
  have r0 := (hA1 ⟨w.heap.size + 1, 0, none⟩ hl4).trans R0
  have r1 := (hA1 ⟨w.heap.size + 1, 1, none⟩ hl4).trans R1
  have r2 := (hA1 ⟨w.heap.size + 1, 2, none⟩ hl4).trans R2
  have s0 := (hA2 ⟨w.heap.size + 1, 0, none⟩ hl4).trans S0
  have s1 := (hA2 ⟨w.heap.size + 1, 1, none⟩ hl4).trans S1
  have s2 := (hA2 ⟨w.heap.size + 1, 2, none⟩ hl4).trans S2
  obtain ⟨m0, m1, m2, -, -, -⟩ := XA.cells
  have hsA : (w3.alloc (.cells #[.int .i64 wd, .int .i64 hi, .slice (some ⟨q2, 0, none⟩) N cc] 26)).heap.size = w3.heap.size + 1 := by simp
  have HBA := Lib.hid hbA
  have hne1 : w.heap.size + 1 ≠ w3.heap.size := by omega
  clear hA1 hA2 Z0 z0 R0 R1 R2 S0 S1 S2 XA
  go_wp2_with fail
  clear hbA
  generalize (w3.alloc (.cells #[.int .i64 wd, .int .i64 hi, .slice (some ⟨q2, 0, none⟩) N cc] 26)) = wA at *
  go_region
  all_goals
    go_wp2
    refine bodyPost_ret (v := .tuple #[.agg #[.int .i64 wd, .int .i64 hi, .slice (some ⟨q2, 0, none⟩) N cc], .int .i64 (cw : Nat)]) (by simp [results, Try.results42, go_sem, r0, r1, r2, hl4, hsA, show w.heap.size + 1 < w3.heap.size + 1 by omega]) rfl ?_
    have hcs := fillN_of HE1.out HLEN.out d1 HOK.out h1 h2 h3 HCON.out
    have wm : WM w3 q2 cc N L H cs := ⟨HOWN.out.sl, by omega, HL.out, by rw [hcs]; exact fillN_ok HE1.out HLEN.out d1 HOK.out h1 h2 h3⟩
    have wm2 := (((wm.below HBA.out).set (ob := w.heap.size + 1) (i := 0) (by omega) (.int .i64 wd)).set (ob := w.heap.size + 1) (i := 1) (by omega) (.int .i64 hi)).set (ob := w.heap.size + 1) (i := 2) (by omega) (.slice (some ⟨q2, 0, none⟩) N cc)
    have hb4 := HB3.out.trans (HBA.out.mono (by omega))
    have hb5 := ((hb4.setCell (p := ⟨w.heap.size + 1, 0, none⟩) (by simp) (.int .i64 wd)).setCell (p := ⟨w.heap.size + 1, 1, none⟩) (by simp) (.int .i64 hi)).setCell (p := ⟨w.heap.size + 1, 2, none⟩) (by simp) (.slice (some ⟨q2, 0, none⟩) N cc)
    have hdr : ∀ W : World, Below W.heap.size W W.drew := fun W => below_drewN (Below.refl _ _) 1
    exact ⟨q2, cc, by rw [HCW.out], by rw [← hcs]; exact wm2.below (hdr _), by omega, hb5.trans ((hdr _).mono hb5.size)⟩

end Go.Proofs.Yticbgeknledpcaa
