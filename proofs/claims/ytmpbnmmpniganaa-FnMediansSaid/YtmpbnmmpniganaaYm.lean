/- GuidedMap's parts: maps of words that are told; the cells that look alike, listed; the mean of none. -/
import Derived.Test.YtmpbnmmpniganaaYl
import Derived.Test.YtmpbnmmpniganaaKj
namespace Go.Proofs.Ytmpbnmmpniganaa
open Go.RowKit
set_option maxRecDepth 100000
set_option linter.unusedVariables false
set_option linter.unusedSimpArgs false

/-- A map of words that are told. -/
def MakesMG (w : World) (wd hi N : Nat) (G : Nat → Nat) (e : Ending) (w' : World) : Prop :=
  ∃ q c, e = .returned (.tuple #[.agg #[.int .i64 wd, .int .i64 hi, .slice (some ⟨q, 0, none⟩) N c], .bool true]) ∧ SlF w' (.slice (some ⟨q, 0, none⟩) N c) ((List.range N).map G) ∧ q < w'.heap.size ∧ w.heap.size ≤ q ∧ Below w.heap.size w w'
theorem bs_of_tabG {bs : List Nat} {wd hi : Nat} {G : Nat → Nat} (hb : ∀ i, i < wd * hi → nan32 (G i) = false) (h : bs.map fl = tab (hi * wd) fun i => (fun x y => G (x + wd * y)) (i % wd) (i / wd)) : bs = (List.range (wd * hi)).map G := by
  have hl : bs.length = wd * hi := by have := congrArg List.length h; rw [List.length_map, tab_length] at this; rw [this, Nat.mul_comm]
  apply List.ext_getElem
  · rw [List.length_map, List.length_range, hl]
  · intro i h1 h2
    have h3 := congrArg (fun l => l[i]?) h
    simp only [List.getElem?_map, tab] at h3
    rw [List.getElem?_eq_getElem h1, List.getElem?_range (by rw [Nat.mul_comm]; omega)] at h3
    simp only [Option.map_some, Option.some.injEq, Nat.mod_add_div] at h3
    have h4 := hb i (by omega)
    have h5 : nan32 bs[i] = false := by rw [← nan32_fl, h3]; exact h4
    rw [fl_eq h5] at h3
    rw [h3, List.getElem_map, List.getElem_range]
theorem remap_g (w : World) (wd hi N : Nat) (sa : Option Addr) (c : Nat) (fv : Value) (G : Nat → Nat) (hv : vPic wd hi N = true) (hb : ∀ i, i < N → nan32 (G i) = false) (hf : Gives2 w fv wd hi (fun x y => G (x + wd * y))) :
    Calls Try.prog 53 #[.agg #[.int .i64 wd, .int .i64 hi, .slice sa N c], fv] w (MakesMG w wd hi N G) := by
  obtain ⟨x1, x2, e1, e2, e3, b1, b2, b3, b4, b5⟩ := vPic_spec hv
  have hw : wd ≤ 24 := by omega
  have hh : hi ≤ 24 := by omega
  have hn : N ≤ 256 := by omega
  have hN : N = wd * hi := by rw [e3]; congr 1 <;> omega
  have hN0 : 0 < N := by rw [e3]; exact Nat.mul_pos b1 b3
  have HF := Lib.hid hf
  have HNN := Lib.hid hN
  clear e1 e2 e3 b1 b2 b3 b4 b5 hf hN
  go_enter Try.func53, Try.ntmps53
  go_wp2_with fail
  refine (validMap_any _ _ _ _ _ (by omega) _).mono ?_
  rw [hv]
  rintro e w1 ⟨rfl, hb1⟩
  have hb0 := below_two w (.cells #[.int .i64 wd, .int .i64 hi, .slice sa N c] 27) (.cells #[.int .i64 0, .int .i64 0, .slice none 0 0] 27)
  have B1 := (box_first w (.int .i64 wd) (.int .i64 hi) (.slice sa N c) 27 (.cells #[.int .i64 0, .int .i64 0, .slice none 0 0] 27)).below hb1
  have B2 := (box_second w (.int .i64 0) (.int .i64 0) (.slice none 0 0) 27 (.cells #[.int .i64 wd, .int .i64 hi, .slice sa N c] 27)).below hb1
  have hbx := hb0.trans (hb1.mono hb0.size)
  have hs := B2.lt
  obtain ⟨c0, c1, c2, f0, f1, f2⟩ := B1.cells
  clear hb1 hb0
  go_wp2_with fail
  refine (mapOf_any w1 wd hi fv _ hw hh (HF.out.below hbx)).mono ?_
  rintro e w2 ⟨a, cc, bs, rfl, hown, hcon, hb2⟩
  have hbs := bs_of_tabG (fun i hi => hb i (by rw [HNN.out]; exact hi)) hcon
  have hl : bs.length = N := by rw [hbs, List.length_map, List.length_range, HNN.out]
  rw [hl] at hown ⊢
  obtain ⟨q, rfl⟩ := own_ptr hown (by omega)
  obtain ⟨d0, d1, d2, g0, g1, g2⟩ := (B2.below hb2).cells
  have hbb := hbx.trans (hb2.mono hbx.size)
  have hq := (hown.lt (k := q) rfl).1
  have hqs : w.heap.size ≤ q := Nat.le_trans hbx.size hq
  have HCON := Lib.hid hbs
  clear hcon hbs
  go_wp2
  refine bodyPost_ret (v := .tuple #[.agg #[.int .i64 wd, .int .i64 hi, .slice (some ⟨q, 0, none⟩) N cc], .bool true]) (by simp [results, Try.results53, go_sem, d0, d1, d2]) rfl ?_
  have ho := (((hown.set (by first | omega | (simp; done) | (simp; omega)) (.int .i64 wd) (a := ⟨w.heap.size + 1, 0, none⟩)).set (by first | omega | (simp; done) | (simp; omega)) (.int .i64 hi) (a := ⟨w.heap.size + 1, 1, none⟩)).set (by first | omega | (simp; done) | (simp; omega)) (.slice (some ⟨q, 0, none⟩) N cc) (a := ⟨w.heap.size + 1, 2, none⟩))
  refine ⟨q, cc, rfl, ?_, (ho.lt (k := q) rfl).2, hqs, ((hbb.setCell (by simp) _).setCell (by simp) _).setCell (by simp) _⟩
  have := ho.sl
  rw [HCON.out, ← HNN.out] at this
  simpa using this

theorem mean_nil (w : World) (a : Option Addr) (c : Nat) : Calls Try.prog 86 #[.slice a 0 c] w fun e w' => e = .returned (.tuple #[.float .f32 0, .bool false]) ∧ w = w' := by
  go_enter Try.func86, Try.ntmps86
  go_wp2_with fail
  go_loop [4, 5, 10] (fun v4 v5 v10 => v4 = .float .f32 0 ∧ v5 = .int .i64 0 ∧ v10 = .int .i64 0) (fun v4 v5 v10 => 0)
  case atStart => exact ⟨rfl, rfl, rfl⟩
  case round =>
    obtain ⟨rfl, rfl, rfl⟩ := hrel
    go_wp2
    go_ret2
    exact ⟨rfl, rfl⟩

/-- All values of some cells. -/
def lsa (ks : List Int) (l : List Nat) : List Int := l.map fun i => ks.getD i 0
theorem lsa_app {ks : List Int} {l : List Nat} {i : Nat} : lsa ks (l ++ [i]) = lsa ks l ++ [ks.getD i 0] := by unfold lsa; simp
theorem about_one (W : World) (gb wd hi : Nat) (v : Value) (X Y : Int) (hw0 : 0 < wd) (hh0 : 0 < hi) (hw : wd ≤ 24) (hh : hi ≤ 24) (one : Nat) (h : PicAt W gb wd hi v (List.replicate (wd * hi) one) 37) :
    Calls Try.prog 63 #[.pointer (some ⟨gb, 0, none⟩), .int .i64 X, .int .i64 Y] W fun e w' => e = .returned (.float .f32 one) ∧ ∃ n, w' = W.drewN n := by
  have := about_any W gb wd hi v _ X Y hw0 hh0 (by omega) (by omega) h
  have e : (List.replicate (wd * hi) one).getD (ix X Y wd hi) 0 = one := by
    rw [List.getD_eq_getElem?_getD, List.getElem?_replicate, if_pos (by have := ix_lt X Y hw0 hh0; have := h.len; rw [List.length_replicate] at this; omega)]; rfl
  rw [e] at this
  exact this

/-- What the cells of the closure are. -/
structure GdW (W1 : World) (pb gb xb yb nb wd hi x y : Nat) (va vg : Value) (ks : List Int) (mo : Int) : Prop where
  m : PicAt W1 pb wd hi va (ks.map (fq 2)) 27
  g : PicAt W1 gb wd hi vg (List.replicate (wd * hi) (fq 2 4)) 37
  x : BoxN W1 xb #[.int .i64 x] 2
  y : BoxN W1 yb #[.int .i64 y] 2
  n : BoxN W1 nb #[.float .f32 (fq 2 mo)] 33
theorem GdW.below {W1 W : World} {pb gb xb yb nb wd hi x y : Nat} {va vg : Value} {ks : List Int} {mo : Int} (h : GdW W1 pb gb xb yb nb wd hi x y va vg ks mo) (hb : Below W1.heap.size W1 W) : GdW W pb gb xb yb nb wd hi x y va vg ks mo :=
  ⟨h.m.below hb, h.g.below hb, h.x.below hb, h.y.below hb, h.n.below hb⟩

set_option maxHeartbeats 2000000 in
theorem gd_step (W1 wr : World) (pb gb xb yb nb lb wd hi x0 y0 : Nat) (va vg : Value) (ks : List Int) (mo : Int) (hmo : mo = 0 ∨ mo = -4) (l : List Nat) (v : Value) (u y : Nat) (hu : u < wd) (hy : y < hi) (hw : wd ≤ 24) (hh : hi ≤ 24) (hkb : ∀ i, (ks.getD i 0).natAbs ≤ 1000) (hl : l.length ≤ 600)
    (hG : GdW W1 pb gb xb yb nb wd hi x0 y0 va vg ks mo)
    (h : AccL W1 wr lb v ((if mo = 0 then lsa ks l else []).map (fq 2))) :
    Calls Try.prog 84 #[.int .i64 u, .int .i64 y, .pointer (some ⟨gb, 0, none⟩), .pointer (some ⟨xb, 0, none⟩), .pointer (some ⟨yb, 0, none⟩), .pointer (some ⟨nb, 0, none⟩), .pointer (some ⟨lb, 0, none⟩), .pointer (some ⟨pb, 0, none⟩)] wr fun e w' => (∃ v, e = .returned v) ∧ ∃ v', AccL W1 w' lb v' ((if mo = 0 then lsa ks (l ++ [u + wd * y]) else []).map (fq 2)) := by
  obtain ⟨i0, hi0, hz0, hz1, hz2⟩ := info_parts info_f32
  have KA := Lib.hid (fun W (hb : Below W1.heap.size W1 W) => mat_q W pb wd hi va ks u y u y rfl rfl hu hy (by omega) (by omega) (hG.m.below hb))
  have KB := Lib.hid (fun n (X Y : Int) => quiet_drew (W := wr) (n := n) (about_one (wr.drewN n) gb wd hi vg X Y (by omega) (by omega) hw hh (fq 2 4) ((hG.g.below h.bel).drew2 n)))
  have KN := Lib.hid (fun n => quiet_same (n := n) (w := wr) ((nearTo_q 4 4 mo (by decide) (by decide) (by omega) (wr.drewN n)).mono (fun e w' h => ⟨h.1, h.2.symm⟩)))
  have hz := hkb (u + wd * y)
  have hflt := fq_lt (g := 2) (k := ks.getD (u + wd * y) 0) (by omega)
  have hlen : (lsa ks l).length ≤ 600 := by unfold lsa; rw [List.length_map]; exact hl
  have LY := Lib.hid (lsa_app (ks := ks) (l := l) (i := u + wd * y))
  have c1 : wr.cell? ⟨xb, 0, none⟩ = some (.int .i64 x0) := (hG.x.below h.bel).cell 0
  have c2 : wr.cell? ⟨yb, 0, none⟩ = some (.int .i64 y0) := (hG.y.below h.bel).cell 0
  have c3 : wr.cell? ⟨nb, 0, none⟩ = some (.float .f32 (fq 2 mo)) := (hG.n.below h.bel).cell 0
  obtain ⟨vm, hvm⟩ : ∃ vm, fq 2 mo = vm := ⟨_, rfl⟩
  obtain ⟨one, hone⟩ : ∃ one, fq 2 4 = one := ⟨_, rfl⟩
  rw [hvm] at c3 KN
  rw [hone] at KB KN
  obtain ⟨rr, hrr⟩ : ∃ rr, fq 2 (ks.getD (u + wd * y) 0) = rr := ⟨_, rfl⟩
  have HRR := Lib.hid hrr
  rw [hrr] at KA hflt
  have HFL := Lib.hid hflt
  generalize hkk : ks.getD (u + wd * y) 0 = kk at *
  clear hvm hone hz hrr hflt hkk
  rcases hmo with hmo | hmo
  · have e0 : decide ((((4 : Int) - 4).natAbs : Int) ≤ mo) = true := by rw [hmo]; decide
    rw [e0] at KN
    rw [if_pos hmo] at h ⊢
    obtain ⟨cs, hcs⟩ : ∃ cs, (lsa ks l).map (fq 2) = cs := ⟨_, rfl⟩
    have hlc : cs.length ≤ 600 := by rw [← hcs, List.length_map]; exact hlen
    have HCS := Lib.hid hcs
    rw [hcs] at h
    have HA := Lib.hid h
    have hb0 := Lib.hid h.bel
    clear hG h hcs hlen e0 hmo
    go_enter Try.func84, Try.ntmps84
    go_upto_region 0 with fail
    go_quiet ((first | (with_reducible exact KB.out _ _ _) | (with_reducible exact KN.out _)))
    have hA1 : AccL W1 (wr.drewN nq) lb v cs := HA.out.drewN nq
    clear c1 c2 c3
    generalize wr.drewN nq = w1 at hA1 ⊢
    have hbel := hA1.bel
    have hown := hA1.own
    have hne := hA1.ne
    have hlbf := hA1.lbf
    have hbox := hA1.box
    have hB := hbox.lt
    have hBs := hbel.size
    have hc0 : w1.cell? ⟨lb, 0, none⟩ = some v := hbox.cell 0
    have HA2 := Lib.hid hA1
    clear hA1 HA hb0
    go_wp2_with fail
    have KAT := Lib.hid (fun n => KA.out (w1.drewN n) (below_drewN hbel n))
    go_region_law (first
      | (refine step_append_lies _ (by rfl) _ _ _ (by rfl) W1.heap.size 33 i0 _ 1 4 Try.underlying25 hi0 hz0 hz1 hz2 rfl (by omega) v cs.length _ (by rfl) (World.ownsRow.alloc hown1.1 _) ⟨w3.heap.size, 0, none⟩ 1 1 [.float .f32 rr] (by rfl) (by rfl) (cell_one_new _ _ _) (by simp [Value.oneCell']) (by omega) (by unfold maxLen; omega) (by omega) (by simp; omega) (w3.heap.size + 1) (by simp) ?_; intro gg cap w4 hown2 hgrow hat hlt2; have q0 : w4.cell? ⟨lb, 0, none⟩ = some v := ((hbox1.below ((Below.refl w3.heap.size w3).alloc (Nat.le_refl _) _)).grown hgrow hne).cell 0; have g0 := ((hbox1.below ((Below.refl w3.heap.size w3).alloc (Nat.le_refl _) _)).grown hgrow hne).free 0)
      | (go_simp; refine (KAT.out _).mono ?_; rintro e w3 ⟨rfl, nn, hw3⟩; have hb2 : Below w1.heap.size w1 w3 := (by rw [hw3]; exact below_drewN (below_drewN (Below.refl _ _) _) _); have hbox1 := hbox.below hb2; have c2' : w3.cell? ⟨lb, 0, none⟩ = some v := hbox1.cell 0; have c4 : ∀ o, (w3.alloc o).cell? ⟨lb, 0, none⟩ = some v := (fun o => (hbox1.below ((Below.refl w3.heap.size w3).alloc (Nat.le_refl _) o)).cell 0); have hown1 := hown.below hb2; have hz2' : W1.heap.size ≤ w3.heap.size := (by have := hb2.size; omega); clear hw3))
    all_goals
      go_wp2
      go_end0
      refine ⟨⟨_, rfl⟩, .slice (some ⟨gg, 0, none⟩) (cs.length + 1) cap, ?_⟩
      rw [LY.out, List.map_append, HCS.out, List.map_cons, List.map_nil, HRR.out]
      exact HA2.out.step hb2 HFL.out hown2 hgrow hat
  · have e0 : decide ((((4 : Int) - 4).natAbs : Int) ≤ mo) = false := by rw [hmo]; decide
    rw [e0] at KN
    have hm0 : ¬ mo = 0 := by omega
    rw [if_neg hm0] at h ⊢
    have HA := Lib.hid h
    clear hG h hlen e0 hmo hm0
    go_enter Try.func84, Try.ntmps84
    go_upto_region 0 with fail
    go_quiet ((first | (with_reducible exact KB.out _ _ _) | (with_reducible exact KN.out _)))
    go_wp2
    go_end0
    exact ⟨⟨_, rfl⟩, v, HA.out.drewN _⟩

end Go.Proofs.Ytmpbnmmpniganaa
