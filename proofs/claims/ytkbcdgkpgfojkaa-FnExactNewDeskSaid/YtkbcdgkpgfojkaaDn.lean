/- Flat maps; new desks. -/
import Derived.Test.YtkbcdgkpgfojkaaDe
namespace Go.Proofs.Ytkbcdgkpgfojkaa
open Go.RowKit Ieee
set_option maxRecDepth 100000
set_option linter.unusedVariables false
set_option linter.unusedSimpArgs false
set_option maxHeartbeats 1000000

/-- How far a flat map is made. -/
structure FlatSt (w wr : World) (wd hi : Nat) (r : Nat) (i : Nat) (v : Value) (bs : List Nat) : Prop where
  bel : Below w.heap.size w wr
  res : Box3 wr w.heap.size (.int .i64 0) (.int .i64 0) (.slice none 0 0) 42
  box : Box3 wr (w.heap.size + 1) (.int .i64 wd) (.int .i64 hi) v 42
  own : OwnF wr (w.heap.size + 2) v bs
  con : bs = List.replicate i r

theorem FlatSt.step {w wr w2 : World} {wd hi i r : Nat} {v : Value} {bs : List Nat} {T : TypeId} {gg cap : Nat} (h : FlatSt w wr wd hi r i v bs) (hr : r < 4294967296)
    (hown : w2.ownsRow (w.heap.size + 2) 24 1 (.slice (some ⟨gg, 0, none⟩) (bs.length + 1) cap) (bs.length + 1) (bs.map (Value.float .f32) ++ [.float .f32 r]))
    (hg : (wr.alloc (.cells #[.float .f32 r] T)).grownBy w2 v.ownBlock) (hne : some (w.heap.size + 1) ≠ v.ownBlock) :
    FlatSt w (w2.setCell ⟨w.heap.size + 1, 2, none⟩ (.slice (some ⟨gg, 0, none⟩) (bs.length + 1) cap)) wd hi r (i + 1) (.slice (some ⟨gg, 0, none⟩) (bs.length + 1) cap) (bs ++ [r]) := by
  have hal : Below wr.heap.size wr (wr.alloc (.cells #[.float .f32 r] T)) := (Below.refl _ _).alloc (Nat.le_refl _) _
  have hlt := h.box.lt
  have hown' := (World.ownsRow.lt hown gg rfl).1
  have b2 : Below w.heap.size w w2 := (h.bel.trans (hal.mono h.bel.size)).grown hg (by simp; have := h.bel.size; omega) (fun k hk => by have := (h.own.lt hk).1; omega)
  have hres : some w.heap.size ≠ v.ownBlock := fun e => by have := (h.own.lt e.symm).1; omega
  refine ⟨b2.setCell (by simp) _, ?_, ?_, ⟨?_, ?_⟩, ?_⟩
  · exact ((h.res.below hal).grown hg hres).grown (grown_setCell _ _ _) (by simp)
  · exact (((h.box.below hal).grown hg hne).set2 _)
  · have k := hown.kept (grown_setCell w2 ⟨w.heap.size + 1, 2, none⟩ (.slice (some ⟨gg, 0, none⟩) (bs.length + 1) cap)) (.inr (by simp [Value.ownBlock]; omega))
    simpa using k
  · intro b hb'
    rcases List.mem_append.1 hb' with h1 | h1
    · exact h.own.2 b h1
    · simp at h1; omega
  · rw [h.con, List.replicate_succ']

theorem FlatSt.start (w : World) (wd hi r : Nat) :
    FlatSt w ((w.alloc (.cells #[.int .i64 0, .int .i64 0, .slice none 0 0] 42)).alloc (.cells #[.int .i64 wd, .int .i64 hi, .slice none 0 0] 42)) wd hi r 0 (.slice none 0 0) [] := by
  refine ⟨((Below.refl _ _).alloc (Nat.le_refl _) _).alloc (by simp) _, ?_, ?_, OwnF.nil _ _, rfl⟩
  · unfold Box3; rw [heap_alloc_old _ _ (by simp)]; exact heap_alloc_new w _
  · unfold Box3
    have := heap_alloc_new (w.alloc (.cells #[.int .i64 0, .int .i64 0, .slice none 0 0] 42)) (.cells #[.int .i64 wd, .int .i64 hi, .slice none 0 0] 42)
    simpa using this

theorem flat_any (w : World) (wd hi N r : Nat) (hN : wd * hi = N) (hN2 : N ≤ 1048576) (hw : wd ≤ 1000000) (hh : hi ≤ 1000000) (hr : r < 4294967296) :
    Calls Try.prog 70 #[.int .i64 wd, .int .i64 hi, .float .f32 r] w (MakesRow w wd hi (List.replicate N r)) := by
  obtain ⟨i0, hi0, hz0, hz1, hz2⟩ := info_parts info_f32d
  have hP : (wd : Int) * (hi : Int) = (N : Int) := by rw [← hN]; exact (Int.natCast_mul _ _).symm
  have HN := Lib.hid hN
  clear hN
  go_enter Try.func70, Try.ntmps70
  go_wp2
  go_loopw [8] (fun v8 wr => ∃ (i : Nat) (v : Value) (bs : List Nat), i ≤ N ∧ v8 = .int .i64 i ∧ FlatSt w wr wd hi r i v bs) (fun v8 _ => N - (intOf v8).toNat)
  case atStart => exact ⟨0, .slice none 0 0, [], Nat.zero_le _, rfl, FlatSt.start w wd hi r⟩
  case round =>
    obtain ⟨i, v, bs, hi2, rfl, hst⟩ := hrel
    have HS := Lib.hid hst
    obtain ⟨c0, c1, c2, f0, f1, f2⟩ := hst.box.cells
    have hlen : bs.length = i := by rw [hst.con, List.length_replicate]
    have hL : bs.length ≤ 1048576 := by omega
    have hown := hst.own
    have hbox := hst.box
    have hsz := hst.bel.size
    have hB := hst.box.lt
    have hne : some (w.heap.size + 1) ≠ v.ownBlock := fun e => by have := (HS.out.own.lt e.symm).1; omega
    have HL := Lib.hid hlen
    clear hst hlen
    by_cases hlt : i < N
    · go_wp2_with (at_builtin; refine wpList_append_lies _ (by rfl) _ _ _ (by rfl) (w.heap.size + 2) 24 i0 _ 1 4 Try.underlying40 hi0 hz0 hz1 hz2 rfl (by omega) v bs.length _ (by rfl) (World.ownsRow.alloc hown.1 _) ⟨wr.heap.size, 0, none⟩ 1 1 [.float .f32 r] (by rfl) (by rfl) (cell_one_new _ _ _) (by simp [Value.oneCell']) (by omega) (by unfold maxLen; omega) (by omega) (by simp; omega) (wr.heap.size + 1) (by simp) ?_; intro gg cap w2 hown2 hgrow hat hlt2; obtain ⟨q0, q1, q2, g0, g1, g2⟩ := ((hbox.below ((Below.refl wr.heap.size wr).alloc (Nat.le_refl _) _)).grown hgrow hne).cells)
      go_wp2
      go_roundw
      case rel => exact ⟨i + 1, _, bs ++ [r], by omega, by go_num, HS.out.step hr hown2 hgrow hne⟩
      case measure => simp [intOf]; omega
    · have : i = N := by omega
      subst this
      obtain ⟨d0, d1, d2, e0, e1, e2⟩ := HS.out.res.cells
      obtain ⟨va, vc, rfl⟩ := HS.out.own.sl.len
      go_wp2
      refine bodyPost_ret (v := .agg #[.int .i64 wd, .int .i64 hi, .slice va bs.length vc]) (by simp [results, Try.results70, go_sem, d0, d1, d2]) rfl ?_
      have hst := HS.out
      have hc := hst.con
      subst hc
      exact ⟨va, vc, rfl, (((hst.own.set (by simp) _).set (by simp) _).set (by simp) _).mono (by omega), ((hst.bel.setCell (by simp) _).setCell (by simp) _).setCell (by simp) _⟩

/-- A new desk: what both NewDesk make. -/
def MakesDesk (w : World) (e : Ending) (w' : World) : Prop := ∃ p q m : Tri, e = .returned (.agg (desk p q m)) ∧ (p.a = 1 ∧ p.b = 1) ∧ (q.a = 1 ∧ q.b = 1) ∧ (m.a = 1 ∧ m.b = 1) ∧ OwnDesk w' w.heap.size p q m [0] [0] [3212836864] ∧ Below w.heap.size w w'

theorem far_of {w w' : World} {B : Nat} {v u : Value} {xs ys : List Nat} (h : OwnF w B v xs) (hu : OwnF w' w.heap.size u ys) : Far v u := by
  refine ⟨?_, ?_⟩
  · cases hv : v.ownBlock with
    | none => exact .inl rfl
    | some k => exact .inr (fun e => by have := (h.lt hv).2; have := (hu.lt e.symm).1; omega)
  · cases hv : u.ownBlock with
    | none => exact .inl rfl
    | some k => exact .inr (fun e => by have := (hu.lt hv).1; have := (h.lt e.symm).2; omega)
theorem Far.symm {v u : Value} (h : Far v u) : Far u v := ⟨h.2, h.1⟩

/-- The world of a new desk when its first picture stands. -/
structure NewSt (w W : World) : Prop where
  desk : W.heap[w.heap.size]? = some (.cells #[.int .i64 0, .int .i64 0, .slice none 0 0, .int .i64 0, .int .i64 0, .slice none 0 0, .int .i64 0, .int .i64 0, .slice none 0 0] 57 (0, 0))
  box : Box3 W (w.heap.size + 2) (.int .i64 1) (.int .i64 1) (.slice (some ⟨w.heap.size + 1, 0, none⟩) 1 1) 55
  own : OwnF W (w.heap.size + 1) (.slice (some ⟨w.heap.size + 1, 0, none⟩) 1 1) [0]
  bel : Below w.heap.size w W

theorem NewSt.start (w : World) : NewSt w (((w.alloc (.cells #[.int .i64 0, .int .i64 0, .slice none 0 0, .int .i64 0, .int .i64 0, .slice none 0 0, .int .i64 0, .int .i64 0, .slice none 0 0] 57)).alloc (.cells #[.float .f32 0] 24)).alloc (.cells #[.int .i64 1, .int .i64 1, .slice (some ⟨w.heap.size + 1, 0, none⟩) 1 1] 55)) := by
  refine ⟨?_, ?_, ⟨?_, by simp⟩, ?_⟩
  · rw [heap_alloc_old _ _ (by simp; omega), heap_alloc_old _ _ (by simp)]; exact heap_alloc_new w _
  · have := heap_alloc_new ((w.alloc (.cells #[.int .i64 0, .int .i64 0, .slice none 0 0, .int .i64 0, .int .i64 0, .slice none 0 0, .int .i64 0, .int .i64 0, .slice none 0 0] 57)).alloc (.cells #[.float .f32 0] 24)) (.cells #[.int .i64 1, .int .i64 1, .slice (some ⟨w.heap.size + 1, 0, none⟩) 1 1] 55)
    unfold Box3
    simpa using this
  · have k := World.ownsRow_lit (base := w.heap.size + 1) (size := 1) (e := 24) (w.alloc (.cells #[.int .i64 0, .int .i64 0, .slice none 0 0, .int .i64 0, .int .i64 0, .slice none 0 0, .int .i64 0, .int .i64 0, .slice none 0 0] 57)) #[.float .f32 0] 1 (by simp) (by unfold maxLen; omega) rfl
    have e : (w.alloc (.cells #[.int .i64 0, .int .i64 0, .slice none 0 0, .int .i64 0, .int .i64 0, .slice none 0 0, .int .i64 0, .int .i64 0, .slice none 0 0] 57)).heap.size = w.heap.size + 1 := by simp
    rw [e] at k
    exact World.ownsRow.alloc k _
  · exact (((Below.refl _ _).alloc (Nat.le_refl _) _).alloc (by simp) _).alloc (by simp; omega) _

theorem NewSt.size {w W : World} (h : NewSt w W) : w.heap.size + 2 < W.heap.size := h.box.lt
theorem NewSt.below {w W W' : World} (h : NewSt w W) (hb : Below W.heap.size W W') : NewSt w W' := by
  have := h.size
  refine ⟨by rw [hb.block _ (by omega)]; exact h.desk, h.box.below hb, h.own.below hb, h.bel.trans (hb.mono (by omega))⟩
theorem NewSt.cells {w W : World} (h : NewSt w W) : (∀ o, W.cell? ⟨w.heap.size, o, none⟩ = (#[Value.int .i64 0, .int .i64 0, .slice none 0 0, .int .i64 0, .int .i64 0, .slice none 0 0, .int .i64 0, .int .i64 0, .slice none 0 0] : Array Value)[o]?) ∧ ∀ o, W.frozen? ⟨w.heap.size, o, none⟩ = false :=
  ⟨fun o => by simp [World.cell?, h.desk], fun o => by simp [World.frozen?, h.desk]⟩

theorem OwnDesk.set {W : World} {p q m : Tri} {xs ys zs : List Nat} {B : Nat} (h : OwnDesk W B p q m xs ys zs) {a : Addr} (ha : a.block < B) (u : Value) : OwnDesk (W.setCell a u) B p q m xs ys zs := ⟨h.op.set ha u, h.oq.set ha u, h.om.set ha u, h.pq, h.pm, h.qm⟩
theorem OwnDesk.mono {W : World} {p q m : Tri} {xs ys zs : List Nat} {B B' : Nat} (h : OwnDesk W B p q m xs ys zs) (hB : B' ≤ B) : OwnDesk W B' p q m xs ys zs := ⟨h.op.mono hB, h.oq.mono hB, h.om.mono hB, h.pq, h.pm, h.qm⟩

theorem OwnDesk.set9 {W : World} {p q m : Tri} {xs ys zs : List Nat} {B : Nat} (h : OwnDesk W B p q m xs ys zs) {b : Nat} (hb : b < B) (u0 u1 u2 u3 u4 u5 u6 u7 u8 : Value) : OwnDesk (((((((((W.setCell ⟨b, 0, none⟩ u0).setCell ⟨b, 1, none⟩ u1).setCell ⟨b, 2, none⟩ u2).setCell ⟨b, 3, none⟩ u3).setCell ⟨b, 4, none⟩ u4).setCell ⟨b, 5, none⟩ u5).setCell ⟨b, 6, none⟩ u6).setCell ⟨b, 7, none⟩ u7).setCell ⟨b, 8, none⟩ u8) B p q m xs ys zs :=
  (OwnDesk.set (OwnDesk.set (OwnDesk.set (OwnDesk.set (OwnDesk.set (OwnDesk.set (OwnDesk.set (OwnDesk.set (OwnDesk.set h hb u0) hb u1) hb u2) hb u3) hb u4) hb u5) hb u6) hb u7) hb u8)
theorem below_set9 {w W : World} {B : Nat} (h : Below B w W) {b : Nat} (hb : B ≤ b) (u0 u1 u2 u3 u4 u5 u6 u7 u8 : Value) : Below B w (((((((((W.setCell ⟨b, 0, none⟩ u0).setCell ⟨b, 1, none⟩ u1).setCell ⟨b, 2, none⟩ u2).setCell ⟨b, 3, none⟩ u3).setCell ⟨b, 4, none⟩ u4).setCell ⟨b, 5, none⟩ u5).setCell ⟨b, 6, none⟩ u6).setCell ⟨b, 7, none⟩ u7).setCell ⟨b, 8, none⟩ u8) :=
  (Below.setCell (Below.setCell (Below.setCell (Below.setCell (Below.setCell (Below.setCell (Below.setCell (Below.setCell (Below.setCell h hb u0) hb u1) hb u2) hb u3) hb u4) hb u5) hb u6) hb u7) hb u8)

theorem specNew_any (w : World) : Calls Try.prog 30 #[] w (MakesDesk w) := by
  have S0 := NewSt.start w
  have K2 := Lib.hid (fun X => flat_any X 1 1 1 3212836864 rfl (by omega) (by omega) (by omega) (by omega))
  go_enter Try.func30, Try.ntmps30
  go_wp2_with fail
  generalize hW1 : ((w.alloc (.cells #[.int .i64 0, .int .i64 0, .slice none 0 0, .int .i64 0, .int .i64 0, .slice none 0 0, .int .i64 0, .int .i64 0, .slice none 0 0] 57)).alloc (.cells #[.float .f32 0] 24)).alloc (.cells #[.int .i64 1, .int .i64 1, .slice (some ⟨w.heap.size + 1, 0, none⟩) 1 1] 55) = W1 at *
  clear hW1
  obtain ⟨x0, x1, x2, _, _, _⟩ := S0.box.cells
  have hs0 := S0.size
  have S1 : NewSt w W1.drew := ⟨S0.desk, S0.box, ⟨S0.own.1, S0.own.2⟩, below_drewN S0.bel 1⟩
  have K1 := Lib.hid (ownP_any W1.drew (w.heap.size + 2) 1 1 (some ⟨w.heap.size + 1, 0, none⟩) 1 [0] S1.box S1.own.sl (by simp) (by simp))
  have HS := Lib.hid S1
  clear S0 S1
  go_region_law (first
    | (go_simp; refine K1.out.mono ?_; rintro e w2 ⟨a2, c2, rfl, ho2, hb2⟩; have S2 := HS.out.below hb2; obtain ⟨y0, y1, y2, _, _, _⟩ := S2.box.cells)
    | (go_simp; refine (K2.out _).mono ?_; rintro e w3 ⟨a3, c3, rfl, ho3, hb3⟩; have S3 := S2.below hb3; obtain ⟨z0, z1, z2, _, _, _⟩ := S3.box.cells; obtain ⟨d0, d1⟩ := S3.cells))
  all_goals
    have hB1 : w.heap.size + 1 ≤ W1.drew.heap.size := by have : W1.drew.heap.size = W1.heap.size := rfl
                                                         omega
    have hB2 := hb2.size
    have OD : OwnDesk w3 (w.heap.size + 1) ⟨1, 1, some ⟨w.heap.size + 1, 0, none⟩, 1, 1⟩ ⟨1, 1, a2, 1, c2⟩ ⟨1, 1, a3, 1, c3⟩ [0] [0] [3212836864] := ⟨S3.own, (ho2.below hb3).mono hB1, OwnF.mono ho3 (by omega), far_of HS.out.own ho2, far_of S2.own ho3, far_of ho2 ho3⟩
    have hBel := S3.bel
    clear S2 S3 HS K1 K2 x0 x1 x2 y0 y1 y2 z0 z1 z2 ho2 ho3 hb2 hb3
    go_wp2
    refine bodyPost_ret (v := .agg (desk ⟨1, 1, some ⟨w.heap.size + 1, 0, none⟩, 1, 1⟩ ⟨1, 1, a2, 1, c2⟩ ⟨1, 1, a3, 1, c3⟩)) (by simp [results, Try.results30, go_sem, d0, d1, desk]) rfl ?_
    exact ⟨_, _, _, rfl, ⟨rfl, rfl⟩, ⟨rfl, rfl⟩, ⟨rfl, rfl⟩, (OwnDesk.set9 OD (Nat.lt_succ_self _) _ _ _ _ _ _ _ _ _).mono (Nat.le_succ _), below_set9 hBel (Nat.le_refl _) _ _ _ _ _ _ _ _ _⟩

theorem lit_own (X : World) (r : Nat) (hr : r < 4294967296) : OwnF (X.alloc (.cells #[.float .f32 r] 24)) X.heap.size (.slice (some ⟨X.heap.size, 0, none⟩) 1 1) [r] :=
  ⟨World.ownsRow_lit (base := X.heap.size) (size := 1) (e := 24) X #[.float .f32 r] 1 (Nat.le_refl _) (by unfold maxLen; omega) rfl, by simp; exact hr⟩

end Go.Proofs.Ytkbcdgkpgfojkaa
