/- The numbers of a window, listed; the median of a window. -/
import Derived.Test.YtmpbnmmpniganaaYi
import Derived.Test.YtmpbnmmpniganaaYh
import Derived.Test.YtmpbnmmpniganaaKe
namespace Go.Proofs.Ytmpbnmmpniganaa
open Go.RowKit
set_option maxRecDepth 100000
set_option linter.unusedVariables false
set_option linter.unusedSimpArgs false

/-- A list in a box of its own. -/
structure AccL (w wr : World) (lb : Nat) (v : Value) (bs : List Nat) : Prop where
  bel : Below w.heap.size w wr
  box : BoxN wr lb #[v] 25
  own : OwnF wr w.heap.size v bs
  ne : some lb ≠ v.ownBlock
  lbf : w.heap.size ≤ lb
theorem AccL.below {w wr w' : World} {lb : Nat} {v : Value} {bs : List Nat} (h : AccL w wr lb v bs) (hb : Below wr.heap.size wr w') : AccL w w' lb v bs :=
  ⟨h.bel.trans (hb.mono h.bel.size), h.box.below hb, h.own.below hb, h.ne, h.lbf⟩
theorem AccL.drewN {w wr : World} {lb : Nat} {v : Value} {bs : List Nat} (h : AccL w wr lb v bs) (n : Nat) : AccL w (wr.drewN n) lb v bs := h.below (below_drewN (Below.refl _ _) n)
theorem AccL.step {w wr w1 w2 : World} {lb r : Nat} {v : Value} {bs : List Nat} {T : TypeId} {gg cap : Nat} (h : AccL w wr lb v bs)
    (hb : Below wr.heap.size wr w1) (hr : r < 4294967296)
    (hown : w2.ownsRow w.heap.size 33 1 (.slice (some ⟨gg, 0, none⟩) (bs.length + 1) cap) (bs.length + 1) (bs.map (Value.float .f32) ++ [.float .f32 r]))
    (hg : (w1.alloc (.cells #[.float .f32 r] T)).grownBy w2 v.ownBlock) (hat : v.ownBlock = some gg ∨ gg = w1.heap.size + 1) :
    AccL w (w2.setCell ⟨lb, 0, none⟩ (.slice (some ⟨gg, 0, none⟩) (bs.length + 1) cap)) lb (.slice (some ⟨gg, 0, none⟩) (bs.length + 1) cap) (bs ++ [r]) := by
  have hal : Below w1.heap.size w1 (w1.alloc (.cells #[.float .f32 r] T)) := (Below.refl _ _).alloc (Nat.le_refl _) _
  have hlt := h.box.lt
  have s1 : wr.heap.size ≤ w1.heap.size := hb.size
  have hgg : gg ≠ lb := by
    rcases hat with e | e
    · intro q; exact h.ne (by rw [e, q])
    · omega
  have b2 : Below w.heap.size w w2 := ((h.bel.trans (hb.mono h.bel.size)).trans (hal.mono (Nat.le_trans h.bel.size s1))).grown hg (by simp; have := h.bel.size; omega) (fun k hk => by have := (h.own.lt hk).1; omega)
  refine ⟨b2.setCell h.lbf _, ?_, ⟨?_, ?_⟩, by simp [Value.ownBlock]; exact fun e => hgg e.symm, h.lbf⟩
  · have := (((h.box.below hb).below hal).grown hg h.ne).set 0 (.slice (some ⟨gg, 0, none⟩) (bs.length + 1) cap)
    simpa using this
  · have k := hown.kept (grown_setCell w2 ⟨lb, 0, none⟩ (.slice (some ⟨gg, 0, none⟩) (bs.length + 1) cap)) (.inr (by simp [Value.ownBlock]; exact hgg))
    simpa using k
  · intro b hb'
    rcases List.mem_append.1 hb' with h1 | h1
    · exact h.own.2 b h1
    · simp at h1; omega

/-- The values among some cells. -/
def lst (ks : List Int) (l : List Nat) : List Int := (l.filter fun i => decide (0 ≤ ks.getD i 0)).map fun i => ks.getD i 0
theorem lst_yes {ks : List Int} {l : List Nat} {i : Nat} (h : 0 ≤ ks.getD i 0) : lst ks (l ++ [i]) = lst ks l ++ [ks.getD i 0] := by
  unfold lst; rw [List.filter_append, List.filter_cons, if_pos (by simpa using h)]; simp
theorem lst_no {ks : List Int} {l : List Nat} {i : Nat} (h : ¬ 0 ≤ ks.getD i 0) : lst ks (l ++ [i]) = lst ks l := by
  unfold lst; rw [List.filter_append, List.filter_cons, if_neg (by simpa using h)]; simp
theorem lst_len (ks : List Int) (l : List Nat) : (lst ks l).length ≤ l.length := by unfold lst; rw [List.length_map]; exact List.length_filter_le _ _
theorem visL_len (wd x y r k : Nat) : (visL wd x y r k).length ≤ k := by
  unfold visL; have := List.length_filter_le (inW wd x y r) (List.range k); rwa [List.length_range] at this

set_option maxHeartbeats 2000000 in
theorem med1_step (W1 wr : World) (pb mb lb wd hi : Nat) (va : Value) (ks : List Int) (l : List Nat) (v : Value) (u y : Nat) (hu : u < wd) (hy : y < hi) (hw : wd ≤ 24) (hh : hi ≤ 24) (hkb : ∀ i, (ks.getD i 0).natAbs ≤ 1000) (hl : l.length ≤ 600)
    (hP : ∀ W, Below W1.heap.size W1 W → PicAt W pb wd hi va (ks.map (fq 2)) 27) (hM : ∀ W, Below W1.heap.size W1 W → W.cell? ⟨mb, 0, none⟩ = some (.pointer (some ⟨pb, 0, none⟩)))
    (h : AccL W1 wr lb v ((lst ks l).map (fq 2))) :
    Calls Try.prog 106 #[.int .i64 u, .int .i64 y, .pointer (some ⟨mb, 0, none⟩), .pointer (some ⟨lb, 0, none⟩)] wr fun e w' => (∃ v, e = .returned v) ∧ ∃ v', AccL W1 w' lb v' ((lst ks (l ++ [u + wd * y])).map (fq 2)) := by
  obtain ⟨i0, hi0, hz0, hz1, hz2⟩ := info_parts info_f32
  have KA := Lib.hid (fun W (hb : Below W1.heap.size W1 W) => mat_q W pb wd hi va ks u y u y rfl rfl hu hy (by omega) (by omega) (hP W hb))
  have KM := Lib.hid hM
  have hz := hkb (u + wd * y)
  have hle := le0_fq (k := ks.getD (u + wd * y) 0) (by omega)
  have hflt := fq_lt (g := 2) (k := ks.getD (u + wd * y) 0) (by omega)
  have LY := Lib.hid (fun h => lst_yes (ks := ks) (l := l) (i := u + wd * y) h)
  have LN := Lib.hid (fun h => lst_no (ks := ks) (l := l) (i := u + wd * y) h)
  have hlen : ((lst ks l).map (fq 2)).length ≤ 600 := by rw [List.length_map]; exact Nat.le_trans (lst_len ks l) hl
  obtain ⟨cs, hcs⟩ : ∃ cs, (lst ks l).map (fq 2) = cs := ⟨_, rfl⟩
  have HCS := Lib.hid hcs
  rw [hcs] at h hlen
  obtain ⟨rr, hrr⟩ : ∃ rr, fq 2 (ks.getD (u + wd * y) 0) = rr := ⟨_, rfl⟩
  have HRR := Lib.hid hrr
  rw [hrr] at KA hle hflt
  have HFL := Lib.hid hflt
  generalize hkk : ks.getD (u + wd * y) 0 = kk at *
  have hm0 := hM wr h.bel
  have hb0 := Lib.hid h.bel
  have KH := Lib.hid (fun W => noHole_any rr W)
  have HA := Lib.hid h
  clear hP hM hz hcs hrr hflt h hkk
  by_cases hk : 0 ≤ kk
  · rw [decide_eq_true hk] at hle
    rw [hle] at KH
    clear hle
    go_enter Try.func106, Try.ntmps106
    go_wp2_with fail
    refine (KA.out _ hb0.out).mono ?_
    rintro e w1 ⟨rfl, n1, hw1⟩
    have hA1 : AccL W1 w1 lb v cs := by rw [hw1]; exact HA.out.drewN n1
    clear hw1 hm0
    have hm0 := KM.out w1 hA1.bel
    have hbel := hA1.bel
    have hown := hA1.own
    have hne := hA1.ne
    have hlbf := hA1.lbf
    have hbox := hA1.box
    have hB := hbox.lt
    have hBs := hbel.size
    have hc0 : w1.cell? ⟨lb, 0, none⟩ = some v := hbox.cell 0
    have HA2 := Lib.hid hA1
    clear hA1 HA
    go_wp2_with fail
    refine (KH.out _).mono ?_
    rintro e w2 ⟨rfl, rfl⟩
    go_wp2_with fail
    have KAT := Lib.hid (fun n => KA.out (w1.drewN n) (below_drewN hbel n))
    go_region_law (first
      | (refine step_append_lies _ (by rfl) _ _ _ (by rfl) W1.heap.size 33 i0 _ 1 4 Try.underlying25 hi0 hz0 hz1 hz2 rfl (by omega) v cs.length _ (by rfl) (World.ownsRow.alloc hown1.1 _) ⟨w3.heap.size, 0, none⟩ 1 1 [.float .f32 rr] (by rfl) (by rfl) (cell_one_new _ _ _) (by simp [Value.oneCell']) (by omega) (by unfold maxLen; omega) (by omega) (by simp; omega) (w3.heap.size + 1) (by simp) ?_; intro gg cap w4 hown2 hgrow hat hlt2; have q0 : w4.cell? ⟨lb, 0, none⟩ = some v := ((hbox1.below ((Below.refl w3.heap.size w3).alloc (Nat.le_refl _) _)).grown hgrow hne).cell 0; have g0 := ((hbox1.below ((Below.refl w3.heap.size w3).alloc (Nat.le_refl _) _)).grown hgrow hne).free 0)
      | (go_simp; refine (KAT.out _).mono ?_; rintro e w3 ⟨rfl, nn, hw3⟩; have hb2 : Below w1.heap.size w1 w3 := (by rw [hw3]; exact below_drewN (below_drewN (Below.refl _ _) _) _); have hbox1 := hbox.below hb2; have c2' : w3.cell? ⟨lb, 0, none⟩ = some v := hbox1.cell 0; have c4 : ∀ o, (w3.alloc o).cell? ⟨lb, 0, none⟩ = some v := (fun o => (hbox1.below ((Below.refl w3.heap.size w3).alloc (Nat.le_refl _) o)).cell 0); have hown1 := hown.below hb2; have hz2' : W1.heap.size ≤ w3.heap.size := (by have := hb2.size; omega); clear hw3))
    all_goals
      go_wp2
      go_end0
      refine ⟨⟨_, rfl⟩, .slice (some ⟨gg, 0, none⟩) (cs.length + 1) cap, ?_⟩
      rw [LY.out hk, List.map_append, HCS.out, List.map_cons, List.map_nil, HRR.out]
      exact HA2.out.step hb2 HFL.out hown2 hgrow hat
  · rw [decide_eq_false hk] at hle
    rw [hle] at KH
    clear hle
    go_enter Try.func106, Try.ntmps106
    go_wp2_with fail
    refine (KA.out _ hb0.out).mono ?_
    rintro e w1 ⟨rfl, n1, hw1⟩
    have hA1 : AccL W1 w1 lb v cs := by rw [hw1]; exact HA.out.drewN n1
    have HA2 := Lib.hid hA1
    clear hw1 hm0 hA1 HA
    go_wp2_with fail
    refine (KH.out _).mono ?_
    rintro e w2 ⟨rfl, rfl⟩
    go_wp2
    go_end0
    exact ⟨⟨_, rfl⟩, v, by rw [LN.out hk, HCS.out]; exact HA2.out⟩

end Go.Proofs.Ytmpbnmmpniganaa
