/- The two pictures of which one is the other one, shifted. -/
import Derived.Test.YtmpbnmmpniganaaKa
import Derived.Test.YtmpbnmmpniganaaMp
import Derived.RegionTactic
import Derived.BigRegion
import Derived.Deep.LoopGhost
namespace Go.Proofs.Ytmpbnmmpniganaa
open Go.RowKit
set_option maxRecDepth 100000
set_option linter.unusedVariables false
set_option linter.unusedSimpArgs false

/-- A row of greys, each greater than the one ahead. -/
structure RowOk (wd b : Nat) (r : List Int) : Prop where
  len : r.length = wd + b
  inc : r.Pairwise (· < ·)
  bd : ∀ z ∈ r, 0 ≤ z ∧ z ≤ 200
def ShA (wd : Nat) (R : List (List Int)) : List Int := R.flatMap fun r => r.take wd
def ShB (wd b : Nat) (R : List (List Int)) : List Int := R.flatMap fun r => (r.drop b).take wd
theorem ShA_add (wd : Nat) (R : List (List Int)) (r : List Int) : ShA wd (R ++ [r]) = ShA wd R ++ r.take wd := by unfold ShA; simp
theorem ShB_add (wd b : Nat) (R : List (List Int)) (r : List Int) : ShB wd b (R ++ [r]) = ShB wd b R ++ (r.drop b).take wd := by unfold ShB; simp
theorem ShA_len {wd b : Nat} : ∀ {R : List (List Int)}, (∀ r ∈ R, RowOk wd b r) → (ShA wd R).length = wd * R.length := by
  intro R
  induction R with
  | nil => intro _; rfl
  | cons r R ih =>
    intro h
    have h1 := ih (fun x hx => h x (List.mem_cons_of_mem _ hx))
    have h2 := (h r (List.mem_cons_self ..)).len
    unfold ShA at h1 ⊢
    rw [List.flatMap_cons, List.length_append, h1, List.length_take, h2, List.length_cons, Nat.mul_succ]
    omega
theorem ShB_len {wd b : Nat} : ∀ {R : List (List Int)}, (∀ r ∈ R, RowOk wd b r) → (ShB wd b R).length = wd * R.length := by
  intro R
  induction R with
  | nil => intro _; rfl
  | cons r R ih =>
    intro h
    have h1 := ih (fun x hx => h x (List.mem_cons_of_mem _ hx))
    have h2 := (h r (List.mem_cons_self ..)).len
    unfold ShB at h1 ⊢
    rw [List.flatMap_cons, List.length_append, h1, List.length_take, List.length_drop, h2, List.length_cons, Nat.mul_succ]
    omega
theorem ShA_bd {wd b : Nat} {R : List (List Int)} (h : ∀ r ∈ R, RowOk wd b r) : ∀ z ∈ ShA wd R, 0 ≤ z ∧ z ≤ 200 := by
  intro z hz
  obtain ⟨r, hr, hz⟩ := List.mem_flatMap.1 hz
  exact (h r hr).bd z (List.mem_of_mem_take hz)
theorem ShB_bd {wd b : Nat} {R : List (List Int)} (h : ∀ r ∈ R, RowOk wd b r) : ∀ z ∈ ShB wd b R, 0 ≤ z ∧ z ≤ 200 := by
  intro z hz
  obtain ⟨r, hr, hz⟩ := List.mem_flatMap.1 hz
  exact (h r hr).bd z (List.mem_of_mem_drop (List.mem_of_mem_take hz))

/-- What stands between two steps. -/
structure ShSt (w wr : World) (sb U oa ob wd hi K : Nat) (va vb : Value) (A B : List Int) : Prop where
  bel : Below w.heap.size w wr
  src : SrcOk wr w.heap.size sb U
  r1 : Box3 wr w.heap.size (.int .i64 0) (.int .i64 0) (.slice none 0 0) 37
  r2 : Box3 wr (w.heap.size + 1) (.int .i64 0) (.int .i64 0) (.slice none 0 0) 37
  ba : Box3 wr oa (.int .i64 wd) (.int .i64 hi) va 37
  bb : Box3 wr ob (.int .i64 wd) (.int .i64 hi) vb 37
  oA : OwnF wr (ob + 1) va (A.map (fq 2))
  oB : OwnF wr (ob + 1) vb (B.map (fq 2))
  ltA : ∀ k, va.ownBlock = some k → k < K
  ltB : ∀ k, vb.ownBlock = some k → k < K
  ne : ∀ k, va.ownBlock = some k → vb.ownBlock ≠ some k
  pl : w.heap.size + 1 < sb ∧ sb < oa ∧ oa < ob ∧ ob < K ∧ K ≤ wr.heap.size
theorem ShSt.atSize {w wr : World} {sb U oa ob wd hi K : Nat} {va vb : Value} {A B : List Int} (h : ShSt w wr sb U oa ob wd hi K va vb A B) : ShSt w wr sb U oa ob wd hi wr.heap.size va vb A B :=
  ⟨h.bel, h.src, h.r1, h.r2, h.ba, h.bb, h.oA, h.oB, fun k e => (h.oA.lt e).2, fun k e => (h.oB.lt e).2, h.ne, by have := h.pl; omega⟩
theorem ShSt.far {w wr w' : World} {sb U oa ob wd hi K : Nat} {va vb : Value} {A B : List Int} {r : Option Nat} (h : ShSt w wr sb U oa ob wd hi K va vb A B) (hg : wr.grownBy w' r) (hr : ∀ k, r = some k → K ≤ k) : ShSt w w' sb U oa ob wd hi K va vb A B := by
  have hp := h.pl
  have ne : ∀ k, k < K → some k ≠ r := fun k hk e => by have := hr k e.symm; omega
  have nv : ∀ v : Value, (∀ k, v.ownBlock = some k → k < K) → v.ownBlock = none ∨ v.ownBlock ≠ r := by
    intro v hv
    cases hvo : v.ownBlock with
    | none => exact .inl rfl
    | some k => exact .inr (ne k (hv k hvo))
  exact ⟨h.bel.grown hg (by omega) (fun k hk => by have := hr k hk; omega), h.src.grown hg (ne _ (by omega)) (fun k hk => by have := hr k hk; omega), h.r1.grown hg (ne _ (by omega)), h.r2.grown hg (ne _ (by omega)), h.ba.grown hg (ne _ (by omega)), h.bb.grown hg (ne _ (by omega)), h.oA.grown hg (nv _ h.ltA), h.oB.grown hg (nv _ h.ltB), h.ltA, h.ltB, h.ne, by have := hg.size; omega⟩
theorem ShSt.draw {w wr w' : World} {sb U V oa ob wd hi K : Nat} {va vb : Value} {A B : List Int} (h : ShSt w wr sb U oa ob wd hi K va vb A B) (hd : Drew w.heap.size sb V wr w') : ShSt w w' sb V oa ob wd hi K va vb A B := by
  have hp := h.pl
  have hg := hd.grown
  have ne : ∀ k, k ≠ sb → some k ≠ some sb := fun k hk e => by injection e with e; exact hk e
  have nv : ∀ (v : Value) (C : List Int), OwnF wr (ob + 1) v (C.map (fq 2)) → v.ownBlock = none ∨ v.ownBlock ≠ some sb := by
    intro v C hv
    cases hvo : v.ownBlock with
    | none => exact .inl rfl
    | some k => exact .inr (ne k (by have := (hv.lt hvo).1; omega))
  exact ⟨h.bel.grown hg (by omega) (fun k hk => by injection hk with hk; omega), hd.ok, h.r1.grown hg (ne _ (by omega)), h.r2.grown hg (ne _ (by omega)), h.ba.grown hg (ne _ (by omega)), h.bb.grown hg (ne _ (by omega)), h.oA.grown hg (nv _ _ h.oA), h.oB.grown hg (nv _ _ h.oB), h.ltA, h.ltB, h.ne, by have := hg.size; omega⟩
theorem ShSt.mono {w wr : World} {sb U V oa ob wd hi K : Nat} {va vb : Value} {A B : List Int} (h : ShSt w wr sb U oa ob wd hi K va vb A B) (hUV : U ≤ V) : ShSt w wr sb V oa ob wd hi K va vb A B :=
  ⟨h.bel, h.src.mono hUV, h.r1, h.r2, h.ba, h.bb, h.oA, h.oB, h.ltA, h.ltB, h.ne, h.pl⟩
theorem ShSt.drewN {w wr : World} {sb U oa ob wd hi K : Nat} {va vb : Value} {A B : List Int} (h : ShSt w wr sb U oa ob wd hi K va vb A B) (n : Nat) : ShSt w (wr.drewN n) sb U oa ob wd hi K va vb A B :=
  h.far (grown_drewN wr n none) (fun k e => by cases e)

/-- A slice of one's own grows: the value's block is as it was, or new. -/
theorem own_put {w2 : World} {K0 b gg n cap : Nat} {A news : List Int} {v : Value} (hown : w2.ownsRow K0 33 1 (.slice (some ⟨gg, 0, none⟩) n cap) n (A.map (fun k => Value.float .f32 (fq 2 k)) ++ news.map (fun k => Value.float .f32 (fq 2 k)))) (hn : n = A.length + news.length) (hA : ∀ z ∈ A, z.natAbs ≤ 1000) (hN : ∀ z ∈ news, z.natAbs ≤ 1000) (hne : gg ≠ b) :
    OwnF (w2.setCell ⟨b, 2, none⟩ v) K0 (.slice (some ⟨gg, 0, none⟩) n cap) ((A ++ news).map (fq 2)) := by
  have k := hown.kept (grown_setCell w2 ⟨b, 2, none⟩ v) (.inr (by simp [Value.ownBlock]; exact hne))
  refine ⟨?_, ?_⟩
  · rw [List.length_map, List.length_append, ← hn, List.map_append, List.map_append, List.map_map, List.map_map]
    exact k
  · intro x hx
    obtain ⟨z, hz, rfl⟩ := List.mem_map.1 hx
    rcases List.mem_append.1 hz with h | h
    · exact fq_lt (by have := hA z h; omega)
    · exact fq_lt (by have := hN z h; omega)
theorem ShSt.putA {w wr w1 w2 : World} {sb U oa ob wd hi K gg n cap : Nat} {va vb : Value} {A B news : List Int} (h : ShSt w wr sb U oa ob wd hi K va vb A B) (hb : Below wr.heap.size wr w1)
    (hown : w2.ownsRow (ob + 1) 33 1 (.slice (some ⟨gg, 0, none⟩) n cap) n (A.map (fun k => Value.float .f32 (fq 2 k)) ++ news.map (fun k => Value.float .f32 (fq 2 k)))) (hn : n = A.length + news.length) (hA : ∀ z ∈ A, z.natAbs ≤ 1000) (hN : ∀ z ∈ news, z.natAbs ≤ 1000)
    (hg : w1.grownBy w2 va.ownBlock) (hat : va.ownBlock = some gg ∨ gg = w1.heap.size) :
    ∃ K', ShSt w (w2.setCell ⟨oa, 2, none⟩ (.slice (some ⟨gg, 0, none⟩) n cap)) sb U oa ob wd hi K' (.slice (some ⟨gg, 0, none⟩) n cap) vb (A ++ news) B := by
  have hp := h.pl
  have s1 := hb.size
  have s2 := hg.size
  have gA : ob + 1 ≤ gg ∧ gg < w2.heap.size := hown.lt gg rfl
  have hgB : ∀ k, vb.ownBlock = some k → k ≠ gg := by
    intro k hk e
    rcases hat with e2 | e2
    · exact h.ne gg e2 (by rw [hk, e])
    · have := (h.oB.lt hk).2; omega
  have g := hg
  have nek : ∀ k, k ≤ ob → some k ≠ va.ownBlock := fun k hk e => by have := (h.oA.lt e.symm).1; omega
  have gs := grown_setCell w2 ⟨oa, 2, none⟩ (.slice (some ⟨gg, 0, none⟩) n cap)
  have neo : ∀ k, k ≠ oa → some k ≠ some oa := fun k hk e => by injection e with e; exact hk e
  have nB : vb.ownBlock = none ∨ vb.ownBlock ≠ va.ownBlock := by
    cases hvo : va.ownBlock with
    | none => cases vb.ownBlock <;> simp
    | some k => exact .inr (h.ne k hvo)
  have nBo : vb.ownBlock = none ∨ vb.ownBlock ≠ some oa := by
    cases hvo : vb.ownBlock with
    | none => exact .inl rfl
    | some k => exact .inr (neo k (by have := (h.oB.lt hvo).1; omega))
  exact ⟨w2.heap.size, ((h.bel.trans (hb.mono (by omega))).grown hg (by omega) (fun k hk => by have := (h.oA.lt hk).1; omega)).setCell (by show w.heap.size ≤ oa; omega) _,
    ((h.src.below hb).grown hg (nek _ (by omega)) (fun k hk => by have := (h.oA.lt hk).1; omega)).grown gs (neo _ (by omega)) (fun k hk => by injection hk with hk; have : oa = k := hk; omega),
    ((h.r1.below hb).grown hg (nek _ (by omega))).grown gs (neo _ (by omega)), ((h.r2.below hb).grown hg (nek _ (by omega))).grown gs (neo _ (by omega)),
    ((h.ba.below hb).grown hg (nek _ (by omega))).set2 _, ((h.bb.below hb).grown hg (nek _ (by omega))).grown gs (neo _ (by omega)),
    own_put hown hn hA hN (by omega), ((h.oB.below hb).grown hg nB).grown gs nBo,
    fun k hk => by
      have hk : gg = k := by injection hk
      omega, fun k hk => by have := (h.oB.lt hk).2; omega, fun k hk e => by
      have hk : gg = k := by injection hk
      exact hgB k e hk.symm, by simp; omega⟩
theorem ShSt.putB {w wr w1 w2 : World} {sb U oa ob wd hi K gg n cap : Nat} {va vb : Value} {A B news : List Int} (h : ShSt w wr sb U oa ob wd hi K va vb A B) (hb : Below wr.heap.size wr w1)
    (hown : w2.ownsRow (ob + 1) 33 1 (.slice (some ⟨gg, 0, none⟩) n cap) n (B.map (fun k => Value.float .f32 (fq 2 k)) ++ news.map (fun k => Value.float .f32 (fq 2 k)))) (hn : n = B.length + news.length) (hA : ∀ z ∈ B, z.natAbs ≤ 1000) (hN : ∀ z ∈ news, z.natAbs ≤ 1000)
    (hg : w1.grownBy w2 vb.ownBlock) (hat : vb.ownBlock = some gg ∨ gg = w1.heap.size) :
    ∃ K', ShSt w (w2.setCell ⟨ob, 2, none⟩ (.slice (some ⟨gg, 0, none⟩) n cap)) sb U oa ob wd hi K' va (.slice (some ⟨gg, 0, none⟩) n cap) A (B ++ news) := by
  have hp := h.pl
  have s1 := hb.size
  have s2 := hg.size
  have gA : ob + 1 ≤ gg ∧ gg < w2.heap.size := hown.lt gg rfl
  have hgB : ∀ k, va.ownBlock = some k → k ≠ gg := by
    intro k hk e
    rcases hat with e2 | e2
    · exact h.ne k hk (by rw [e2, e])
    · have := (h.oA.lt hk).2; omega
  have nek : ∀ k, k ≤ ob → some k ≠ vb.ownBlock := fun k hk e => by have := (h.oB.lt e.symm).1; omega
  have gs := grown_setCell w2 ⟨ob, 2, none⟩ (.slice (some ⟨gg, 0, none⟩) n cap)
  have neo : ∀ k, k ≠ ob → some k ≠ some ob := fun k hk e => by injection e with e; exact hk e
  have nB : va.ownBlock = none ∨ va.ownBlock ≠ vb.ownBlock := by
    cases hvo : va.ownBlock with
    | none => exact .inl rfl
    | some k => exact .inr (fun e => h.ne k hvo e.symm)
  have nBo : va.ownBlock = none ∨ va.ownBlock ≠ some ob := by
    cases hvo : va.ownBlock with
    | none => exact .inl rfl
    | some k => exact .inr (neo k (by have := (h.oA.lt hvo).1; omega))
  exact ⟨w2.heap.size, ((h.bel.trans (hb.mono (by omega))).grown hg (by omega) (fun k hk => by have := (h.oB.lt hk).1; omega)).setCell (by show w.heap.size ≤ ob; omega) _,
    ((h.src.below hb).grown hg (nek _ (by omega)) (fun k hk => by have := (h.oB.lt hk).1; omega)).grown gs (neo _ (by omega)) (fun k hk => by injection hk with hk; have : ob = k := hk; omega),
    ((h.r1.below hb).grown hg (nek _ (by omega))).grown gs (neo _ (by omega)), ((h.r2.below hb).grown hg (nek _ (by omega))).grown gs (neo _ (by omega)),
    ((h.ba.below hb).grown hg (nek _ (by omega))).grown gs (neo _ (by omega)), ((h.bb.below hb).grown hg (nek _ (by omega))).set2 _,
    ((h.oA.below hb).grown hg nB).grown gs nBo, own_put hown hn hA hN (by omega),
    fun k hk => by have := (h.oA.lt hk).2; omega, fun k hk => by
      have hk : gg = k := by injection hk
      omega, fun k hk e => by
      have e : gg = k := by injection e
      exact hgB k hk e.symm, by simp; omega⟩

end Go.Proofs.Ytmpbnmmpniganaa
