/- Maps of quarters: their cells, holes, maps that a function tells. -/
import Derived.Test.YtkhoifgljalfcaaSame
import Derived.Test.YtkhoifgljalfcaaGen
import Derived.Test.YtkhoifgljalfcaaQf
namespace Go.Proofs.Ytkhoifgljalfcaa
open Go.RowKit
set_option maxRecDepth 100000
set_option linter.unusedVariables false
set_option linter.unusedSimpArgs false

@[go_sem] theorem run_field_greys (a b : Int) (o : Option Addr) (n k : Nat) (w : World) : (Instr.field 66 (.agg #[.int .i64 a, .int .i64 b, .slice o n k]) 2).run Try.prog w = .ok (.slice o n k) w := by rfl

theorem alb1 (w : World) (o : Obj) : Below w.heap.size w (w.alloc o) := (Below.refl _ _).alloc (Nat.le_refl _) _
theorem own_ptr {w : World} {B n c : Nat} {a : Option Addr} {bs : List Nat} (h : OwnF w B (.slice a n c) bs) (h0 : 0 < bs.length) : ∃ q, a = some ⟨q, 0, none⟩ := by
  rcases h.form with ⟨h1, h2⟩ | ⟨q, cap, h1, h2⟩
  · rw [h2] at h0; simp at h0
  · simp only [Value.slice.injEq] at h1; exact ⟨q, h1.1⟩
theorem eq_of_flq {r g : Nat} {k : Int} (hk : k.natAbs ≤ 16777216) (h : fl r = fq g k) : r = fq g k := by
  rw [← h]; symm; apply fl_eq
  rw [← nan32_fl, h]; exact fq_nan hk
/-- A list of n values. -/
def tabI (n : Nat) (F : Nat → Int) : List Int := (List.range n).map F
theorem tabI_length (n : Nat) (F : Nat → Int) : (tabI n F).length = n := by simp [tabI]
theorem tabI_get {n : Nat} {F : Nat → Int} {i : Nat} (h : i < n) : (tabI n F).getD i 0 = F i := by
  unfold tabI; rw [List.getD_eq_getElem?_getD, List.getElem?_map, List.getElem?_range h]; rfl
theorem tabI_ext {ks : List Int} {n : Nat} (h : ks.length = n) : tabI n (fun i => ks.getD i 0) = ks := by
  subst h
  apply List.ext_getElem
  · simp [tabI]
  · intro i h1 h2
    simp only [tabI, List.getElem_map, List.getElem_range]
    rw [List.getD_eq_getElem?_getD, List.getElem?_eq_getElem h2]; rfl
theorem mem_tabI {n : Nat} {F : Nat → Int} {k : Int} (h : k ∈ tabI n F) : ∃ i, i < n ∧ k = F i := by
  obtain ⟨i, hi, rfl⟩ := List.mem_map.1 h
  exact ⟨i, List.mem_range.1 hi, rfl⟩
theorem bs_of_tab {bs : List Nat} {wd hi : Nat} {F : Nat → Int} (hb : ∀ i, i < wd * hi → (F i).natAbs ≤ 16777216) (h : bs.map fl = tab (hi * wd) fun i => (fun x y => fq 2 (F (x + wd * y))) (i % wd) (i / wd)) : bs = (tabI (wd * hi) F).map (fq 2) := by
  have hl : bs.length = wd * hi := by have := congrArg List.length h; rw [List.length_map, tab_length] at this; rw [this, Nat.mul_comm]
  apply List.ext_getElem
  · rw [List.length_map, tabI_length, hl]
  · intro i h1 h2
    have h3 := congrArg (fun l => l[i]?) h
    simp only [List.getElem?_map, tab] at h3
    rw [List.getElem?_eq_getElem h1, List.getElem?_range (by rw [Nat.mul_comm]; omega)] at h3
    simp only [Option.map_some, Option.some.injEq, Nat.mod_add_div] at h3
    rw [eq_of_flq (hb i (by omega)) h3, List.getElem_map]
    simp [tabI]

/-- A map of quarters in memory. -/
structure MQ (W : World) (q c N : Nat) (ks : List Int) : Prop where
  sl : SlF W (.slice (some ⟨q, 0, none⟩) N c) (ks.map (fq 2))
  qlt : q < W.heap.size
  bd : ∀ k ∈ ks, k.natAbs ≤ 1000
theorem MQ.below {W W' : World} {q c N : Nat} {ks : List Int} (h : MQ W q c N ks) (hb : Below W.heap.size W W') : MQ W' q c N ks := ⟨h.sl.below hb, Nat.lt_of_lt_of_le h.qlt hb.size, h.bd⟩
theorem MQ.len {W : World} {q c N : Nat} {ks : List Int} (h : MQ W q c N ks) : ks.length = N := by
  have := h.sl.len
  obtain ⟨a, c', e⟩ := this
  simp only [Value.slice.injEq, List.length_map] at e
  exact e.2.1.symm
theorem MQ.get {W : World} {q c N : Nat} {ks : List Int} (h : MQ W q c N ks) (i : Nat) (hi : i < N) : W.cell? ⟨q, i, none⟩ = some (.float .f32 (fq 2 (ks.getD i 0))) := by
  have := (h.sl.cellAt i (by rw [List.length_map, h.len]; exact hi)).1
  rw [Nat.zero_add] at this
  rw [this]
  congr 2
  rw [List.getD_eq_getElem?_getD, List.getElem?_map, List.getD_eq_getElem?_getD, List.getElem?_eq_getElem (by rw [h.len]; exact hi)]; rfl
theorem MQ.kb {W : World} {q c N : Nat} {ks : List Int} (h : MQ W q c N ks) (i : Nat) : (ks.getD i 0).natAbs ≤ 1000 := by
  rw [List.getD_eq_getElem?_getD]
  cases e : ks[i]? with
  | none => show (0 : Int).natAbs ≤ _; omega
  | some z => exact h.bd z (List.mem_of_getElem? e)
theorem MQ.cap {W : World} {q c N : Nat} {ks : List Int} (h : MQ W q c N ks) : N ≤ c ∧ c ≤ 9223372036854775807 := by
  obtain ⟨_, cap, q1, q2, q3, _⟩ := h.sl.1
  simp only [Value.slice.injEq, List.length_map] at q1 q2
  omega
theorem MQ.drewN {W : World} {q c N : Nat} {ks : List Int} (h : MQ W q c N ks) (k : Nat) : MQ (W.drewN k) q c N ks := ⟨⟨h.sl.1.drewN k, h.sl.2⟩, h.qlt, h.bd⟩

/-- A value of a map. -/
theorem mat_any (W : World) (pb wd hi : Nat) (v : Value) (bs : List Nat) (x y : Nat) (X Y : Int) (hX : X = x) (hY : Y = y) (hx : x < wd) (hy : y < hi) (hw2 : wd ≤ 1000) (hh2 : hi ≤ 1000) (h : PicAt W pb wd hi v bs 43) :
    Calls Try.prog 72 #[.pointer (some ⟨pb, 0, none⟩), .int .i64 X, .int .i64 Y] W fun e w' => e = .returned (.float .f32 (bs.getD (x + wd * y) 0)) ∧ ∃ n, w' = W.drewN n := by
  subst hX hY
  obtain ⟨c0, c1, c2, -, -, -⟩ := h.box.cells
  have hl := h.len
  have hlt : x + wd * y < wd * hi := by
    calc x + wd * y < wd + wd * y := by omega
      _ = wd * (y + 1) := by rw [Nat.mul_add, Nat.mul_one, Nat.add_comm]
      _ ≤ wd * hi := Nat.mul_le_mul_left _ hy
  have hne : bs ≠ [] := by intro e; rw [e] at hl; simp at hl; omega
  obtain ⟨b, off, cap, rfl, hb, hc⟩ := h.sl.form hne
  have hc1 := hc (x + wd * y) (by omega)
  rw [getD_of bs _ (by omega)] at hc1
  have hmul : wd * y ≤ 1000 * 1000 := Nat.mul_le_mul hw2 (by omega)
  have hlb : wd * hi ≤ 1000 * 1000 := Nat.mul_le_mul hw2 hh2
  have e1 : IntKind.i64.wrap ((wd : Int) * (y : Int)) = (wd : Int) * (y : Int) := IntWalk.i64_in _ (by rw [← Int.natCast_mul]; omega)
  have e2 : IntKind.i64.wrap ((x : Int) + (wd : Int) * (y : Int)) = (x : Int) + (wd : Int) * (y : Int) := IntWalk.i64_in _ (by rw [← Int.natCast_mul]; omega)
  have e3 : (0 : Int) ≤ (x : Int) + (wd : Int) * (y : Int) := by rw [← Int.natCast_mul]; omega
  have e4 : (x : Int) + (wd : Int) * (y : Int) < (bs.length : Int) := by rw [← Int.natCast_mul]; omega
  have e5 : ((x : Int) + (wd : Int) * (y : Int)).toNat = x + wd * y := by rw [← Int.natCast_mul]; omega
  clear hc hl hmul h hlb
  go_enter Try.func72, Try.ntmps72
  go_wp2
  go_quiet (fail)
  go_wp2
  go_ret
  exact ⟨rfl, _, rfl⟩

theorem mapOf_any (w : World) (wd hi : Nat) (fv : Value) (g : Nat → Nat → Nat) (hw : wd ≤ 24) (hh : hi ≤ 24) (hf : Gives2 w fv wd hi g) :
    Calls Try.prog 64 #[.int .i64 wd, .int .i64 hi, fv] w (MakesPic w wd hi g) := by
  have ha := alb1 w (.cells #[.int .i64 0, .int .i64 0, .slice none 0 0] 43)
  have B := box_last w (.int .i64 0) (.int .i64 0) (.slice none 0 0) 43
  have K := Lib.hid (made_any _ wd hi fv g hw hh (hf.below ha))
  have HB := Lib.hid B
  have HA := Lib.hid ha
  clear B ha hf
  go_enter Try.func64, Try.ntmps64
  go_wp2_with fail
  refine K.out.mono ?_
  rintro e w2 ⟨a, c, bs, rfl, hown, hcon, hb2⟩
  have hbb := HA.out.trans (hb2.mono HA.out.size)
  obtain ⟨d0, d1, d2, g0, g1, g2⟩ := (HB.out.below hb2).cells
  have hz : w.heap.size < w2.heap.size := by have := hb2.size; simp at this; omega
  go_wp2
  refine bodyPost_ret (v := .agg #[.int .i64 wd, .int .i64 hi, .slice a bs.length c]) (by simp [results, Try.results64, go_sem, d0, d1, d2, hz]) rfl ?_
  exact ⟨a, c, bs, rfl, (((hown.set (by first | omega | (simp; done) | (simp; omega)) _).set (by first | omega | (simp; done) | (simp; omega)) _).set (by first | omega | (simp; done) | (simp; omega)) _).mono (by first | omega | (simp; done) | (simp; omega)), hcon, ((hbb.setCell (by first | omega | (simp; done) | (simp; omega)) _).setCell (by first | omega | (simp; done) | (simp; omega)) _).setCell (by first | omega | (simp; done) | (simp; omega)) _⟩

end Go.Proofs.Ytkhoifgljalfcaa
