/- The law FnExactValidDesk: its walk. -/
import Derived.Test.YtgagcfnmgcencaaAk
namespace Go.Proofs.Ytgagcfnmgcencaa
open Go.RowKit Ieee
set_option maxRecDepth 100000
set_option linter.unusedVariables false
set_option linter.unusedSimpArgs false

theorem SlF.le {w : World} {s : Option Addr} {n c : Nat} {bs : List Nat} (h : SlF w (.slice s n c) bs) : bs.length = n ∧ n ≤ 9223372036854775807 := by
  obtain ⟨a, cap, e, h1, h2, -⟩ := h.1
  injection e with e1 e2 e3
  rw [List.length_map] at e2 h1
  omega
/-- A desk's nine cells. -/
def deskAt (W : World) (b : Nat) (p q m : Tri) : Prop := p.at_ W b 0 ∧ q.at_ W b 3 ∧ m.at_ W b 6
theorem deskAt.below {W W' : World} {b : Nat} {p q m : Tri} (h : deskAt W b p q m) (hl : b < W.heap.size) (hb : Below W.heap.size W W') : deskAt W' b p q m := ⟨h.1.below hl hb, h.2.1.below hl hb, h.2.2.below hl hb⟩

set_option maxHeartbeats 4000000 in
theorem fnExactValidDesk_walk (w : World) (p q m : Tri) (xs ys zs : List Nat) (hp : SlF w (.slice p.s p.l p.c) xs) (hq : SlF w (.slice q.s q.l q.c) ys) (hm : SlF w (.slice m.s m.l m.c) zs) :
    Calls Try.prog 3 #[.agg (desk p q m)] w fun e w' => e = .returned (.bool true) ∧ Below w.heap.size w w' := by
  obtain ⟨W0, hW0⟩ : ∃ W, W = w.alloc (.cells (desk p q m) 28) := ⟨_, rfl⟩
  have hb0 : Below w.heap.size w W0 := by rw [hW0]; exact (Below.refl _ _).alloc (Nat.le_refl _) _
  have hlt : w.heap.size < W0.heap.size := by rw [hW0]; simp
  have hat : deskAt W0 w.heap.size p q m := by rw [hW0]; exact desk_at w p q m _
  have KZ := Lib.hid (fun W => szDesk_any W p q m hp.le.2 hq.le.2 hm.le.2)
  have HP := Lib.hid (And.intro hp (And.intro hq hm))
  have HX := Lib.hid (And.intro hb0 (And.intro hlt hat))
  obtain ⟨⟨a0, a1, a2⟩, ⟨a3, a4, a5⟩, ⟨a6, a7, a8⟩⟩ := hat
  have HW0 := Lib.hid hW0
  clear hp hq hm hb0
  rw [hW0] at a0 a1 a2 a3 a4 a5 a6 a7 a8
  clear hW0
  unfold desk at *
  go_enter Try.func3, Try.ntmps3
  go_wp2_with fail
  clear a0 a1 a2 a3 a4 a5 a6 a7 a8
  rw [← HW0.out]
  refine (KZ.out _).mono ?_
  rintro e w1 ⟨hb1, rfl | ⟨z, rfl, l1, l2, l3⟩⟩
  · have HB := Lib.hid (HX.out.1.trans (hb1.mono HX.out.1.size))
    clear hb1
    go_wp2_with fail
    go_ret
    exact ⟨rfl, HB.out⟩
  · have KD := Lib.hid (fun W (hb : Below w.heap.size w W) => toDesk_any W p q m xs ys zs (HP.out.1.below hb) (HP.out.2.1.below hb) (HP.out.2.2.below hb) HP.out.1.le.1 HP.out.2.1.le.1 HP.out.2.2.le.1 l1 l2 l3)
    have HL := Lib.hid (And.intro l1 (And.intro l2 l3))
    have hd : decide ((z : Int) < 0) = false := decide_eq_false (by omega)
    have b1 : Below w.heap.size w w1 := HX.out.1.trans (hb1.mono HX.out.1.size)
    have at1 := HX.out.2.2.below HX.out.2.1 hb1
    have hlt1 : w.heap.size < w1.heap.size := Nat.lt_of_lt_of_le HX.out.2.1 hb1.size
    have H1 := Lib.hid (And.intro b1 at1)
    obtain ⟨⟨a0, a1, a2⟩, ⟨a3, a4, a5⟩, ⟨a6, a7, a8⟩⟩ := at1
    clear b1 hb1 l1 l2 l3
    go_wp2_with fail
    clear a0 a1 a2 a3 a4 a5 a6 a7 a8
    refine (KD.out _ H1.out.1).mono ?_
    rintro e w2 ⟨g1, g2, g3, rfl, o1, o2, o3, hb2⟩
    have KV := Lib.hid (svalidDesk_any w2 ⟨p.a, p.b, some ⟨g1, 0, none⟩, p.l, p.l⟩ ⟨q.a, q.b, some ⟨g2, 0, none⟩, q.l, q.l⟩ ⟨m.a, m.b, some ⟨g3, 0, none⟩, m.l, m.l⟩ (by show p.l ≤ _; have := HL.out.1; omega) (by show q.l ≤ _; have := HL.out.2.1; omega) (by show m.l ≤ _; have := HL.out.2.2; omega))
    have b2 := H1.out.1.trans (hb2.mono H1.out.1.size)
    have at2 := H1.out.2.below hlt1 hb2
    have hlt2 : w.heap.size < w2.heap.size := Nat.lt_of_lt_of_le hlt1 hb2.size
    have H2 := Lib.hid (And.intro b2 at2)
    have efit : fits ⟨p.a, p.b, some ⟨g1, 0, none⟩, p.l, p.l⟩ ⟨m.a, m.b, some ⟨g3, 0, none⟩, m.l, m.l⟩ = fits p m := rfl
    have efit2 : fits ⟨q.a, q.b, some ⟨g2, 0, none⟩, q.l, q.l⟩ ⟨m.a, m.b, some ⟨g3, 0, none⟩, m.l, m.l⟩ = fits q m := rfl
    rw [efit, efit2] at KV
    clear o1 o2 o3 b2 hb2 efit efit2 at2
    unfold desk at *
    go_wp2_with fail
    refine KV.out.mono ?_
    rintro e w3 ⟨rfl, hb3⟩
    have b3 := H2.out.1.trans (hb3.mono H2.out.1.size)
    have at3 := H2.out.2.below hlt2 hb3
    have hlt3 : w.heap.size < w3.heap.size := Nat.lt_of_lt_of_le hlt2 hb3.size
    have H3 := Lib.hid (And.intro b3 at3)
    obtain ⟨⟨a0, a1, a2⟩, ⟨a3, a4, a5⟩, ⟨a6, a7, a8⟩⟩ := at3
    clear b3 hb3
    go_wp2_with fail
    clear a0 a1 a2 a3 a4 a5 a6 a7 a8
    refine (KD.out _ H3.out.1).mono ?_
    rintro e w4 ⟨k1, k2, k3, rfl, o1, o2, o3, hb4⟩
    obtain ⟨tp, htp⟩ : ∃ t : Tri, t = ⟨p.a, p.b, some ⟨k1, 0, none⟩, p.l, p.l⟩ := ⟨_, rfl⟩
    obtain ⟨tq, htq⟩ : ∃ t : Tri, t = ⟨q.a, q.b, some ⟨k2, 0, none⟩, q.l, q.l⟩ := ⟨_, rfl⟩
    obtain ⟨tm, htm⟩ : ∃ t : Tri, t = ⟨m.a, m.b, some ⟨k3, 0, none⟩, m.l, m.l⟩ := ⟨_, rfl⟩
    rw [← htp, ← htq, ← htm]
    have O1 : OwnF w4 w3.heap.size (.slice tp.s tp.l tp.c) xs := by rw [htp]; exact o1
    have O2 : OwnF w4 w3.heap.size (.slice tq.s tq.l tq.c) ys := by rw [htq]; exact o2
    have O3 : OwnF w4 w3.heap.size (.slice tm.s tm.l tm.c) zs := by rw [htm]; exact o3
    have E := Lib.hid (And.intro (show tp.a = p.a ∧ tp.b = p.b by rw [htp]; exact ⟨rfl, rfl⟩) (And.intro (show tq.a = q.a ∧ tq.b = q.b by rw [htq]; exact ⟨rfl, rfl⟩) (show tm.a = m.a ∧ tm.b = m.b by rw [htm]; exact ⟨rfl, rfl⟩)))
    have KV2 := Lib.hid (fun W => ivalidDesk_any W tp tq tm (by rw [htp]; show p.l ≤ _; have := HL.out.1; omega) (by rw [htq]; show q.l ≤ _; have := HL.out.2.1; omega) (by rw [htm]; show m.l ≤ _; have := HL.out.2.2; omega))
    have efit : fits tp tm = fits p m := by rw [htp, htm]; rfl
    have efit2 : fits tq tm = fits q m := by rw [htq, htm]; rfl
    rw [efit, efit2] at KV2
    obtain ⟨vv, hvv⟩ : ∃ v, (fits p m && fits q m) = v := ⟨_, rfl⟩
    rw [hvv] at KV2 ⊢
    have hl3 := H3.out.1
    have b4 : Below w.heap.size w w4 := hl3.trans (hb4.mono hl3.size)
    have at4 := H3.out.2.below hlt3 hb4
    have hlt4 : w.heap.size < w4.heap.size := Nat.lt_of_lt_of_le hlt3 hb4.size
    obtain ⟨W4, hW4⟩ : ∃ W, W = w4.alloc (.cells (desk tp tq tm) 34) := ⟨_, rfl⟩
    have c4 : Below w4.heap.size w4 W4 := by rw [hW4]; exact (Below.refl _ _).alloc (Nat.le_refl _) _
    have dx : deskAt W4 w4.heap.size tp tq tm := by rw [hW4]; exact desk_at w4 tp tq tm _
    have hlx : w4.heap.size < W4.heap.size := by rw [hW4]; simp
    have atW := at4.below hlt4 c4
    have hltW : w.heap.size < W4.heap.size := by omega
    have H4 := Lib.hid (And.intro (b4.trans (c4.mono b4.size)) (And.intro atW (And.intro dx (And.intro (O1.below c4).sl (And.intro (O2.below c4).sl (O3.below c4).sl)))))
    obtain ⟨⟨x0, x1, x2⟩, ⟨x3, x4, x5⟩, ⟨x6, x7, x8⟩⟩ := dx
    have HW4 := Lib.hid hW4
    rw [hW4] at x0 x1 x2 x3 x4 x5 x6 x7 x8
    clear htp htq htm o1 o2 o3 O1 O2 O3 hb4 b4 at4 c4 atW hW4 efit efit2 hl3 hvv
    unfold desk at *
    go_wp2_with fail
    rw [← HW4.out]
    clear x0 x1 x2 x3 x4 x5 x6 x7 x8
    refine (KV2.out _).mono ?_
    rintro e w5 ⟨rfl, hb5⟩
    have hlt5 : w.heap.size < w5.heap.size := Nat.lt_of_lt_of_le hltW hb5.size
    have hlx5 : w4.heap.size < w5.heap.size := Nat.lt_of_lt_of_le hlx hb5.size
    have H5 := Lib.hid (And.intro (H4.out.1.trans (hb5.mono H4.out.1.size)) (And.intro (H4.out.2.1.below hltW hb5) (And.intro (H4.out.2.2.1.below hlx hb5) (And.intro (H4.out.2.2.2.1.below hb5) (And.intro (H4.out.2.2.2.2.1.below hb5) (H4.out.2.2.2.2.2.below hb5))))))
    have CELLS := Lib.hid (fun W (hW : Below w5.heap.size w5 W) => (show (deskAt W w4.heap.size tp tq tm ∧ deskAt W w.heap.size p q m) from ⟨H5.out.2.2.1.below hlx5 hW, H5.out.2.1.below hlt5 hW⟩))
    clear hb5
    unfold deskAt Tri.at_ at CELLS
    go_upto_region 10 with fail
    have hA1 : Below w5.heap.size w5 w5.drew := below_drewN (Below.refl _ _) 1
    have hbA : Below w.heap.size w w5.drew := H5.out.1.trans (hA1.mono H5.out.1.size)
    have SV := Lib.hid (fun W (hW : Below w5.heap.size w5 W) => (show (W.cell? ⟨w4.heap.size, 0, none⟩ = some (.int .i64 tp.a) ∧ W.cell? ⟨w4.heap.size, 1, none⟩ = some (.int .i64 tp.b) ∧ W.cell? ⟨w4.heap.size, 2, none⟩ = some (.slice tp.s tp.l tp.c) ∧ W.cell? ⟨w4.heap.size, 3, none⟩ = some (.int .i64 tq.a) ∧ W.cell? ⟨w4.heap.size, 4, none⟩ = some (.int .i64 tq.b) ∧ W.cell? ⟨w4.heap.size, 5, none⟩ = some (.slice tq.s tq.l tq.c) ∧ W.cell? ⟨w4.heap.size, 6, none⟩ = some (.int .i64 tm.a) ∧ W.cell? ⟨w4.heap.size, 7, none⟩ = some (.int .i64 tm.b) ∧ W.cell? ⟨w4.heap.size, 8, none⟩ = some (.slice tm.s tm.l tm.c) ∧ W.cell? ⟨w.heap.size, 0, none⟩ = some (.int .i64 p.a) ∧ W.cell? ⟨w.heap.size, 1, none⟩ = some (.int .i64 p.b) ∧ W.cell? ⟨w.heap.size, 2, none⟩ = some (.slice p.s p.l p.c) ∧ W.cell? ⟨w.heap.size, 3, none⟩ = some (.int .i64 q.a) ∧ W.cell? ⟨w.heap.size, 4, none⟩ = some (.int .i64 q.b) ∧ W.cell? ⟨w.heap.size, 5, none⟩ = some (.slice q.s q.l q.c) ∧ W.cell? ⟨w.heap.size, 6, none⟩ = some (.int .i64 m.a) ∧ W.cell? ⟨w.heap.size, 7, none⟩ = some (.int .i64 m.b) ∧ W.cell? ⟨w.heap.size, 8, none⟩ = some (.slice m.s m.l m.c)) from
      have h := CELLS.out W hW
      ⟨h.1.1.1, h.1.1.2.1, h.1.1.2.2, h.1.2.1.1, h.1.2.1.2.1, h.1.2.1.2.2, h.1.2.2.1, h.1.2.2.2.1, h.1.2.2.2.2, h.2.1.1, h.2.1.2.1, h.2.1.2.2, h.2.2.1.1, h.2.2.1.2.1, h.2.2.1.2.2, h.2.2.2.1, h.2.2.2.2.1, h.2.2.2.2.2⟩))
    go_region_held3 (fun W => W.cell? ⟨w4.heap.size, 0, none⟩ = some (.int .i64 tp.a) ∧ W.cell? ⟨w4.heap.size, 1, none⟩ = some (.int .i64 tp.b) ∧ W.cell? ⟨w4.heap.size, 2, none⟩ = some (.slice tp.s tp.l tp.c) ∧ W.cell? ⟨w4.heap.size, 3, none⟩ = some (.int .i64 tq.a) ∧ W.cell? ⟨w4.heap.size, 4, none⟩ = some (.int .i64 tq.b) ∧ W.cell? ⟨w4.heap.size, 5, none⟩ = some (.slice tq.s tq.l tq.c) ∧ W.cell? ⟨w4.heap.size, 6, none⟩ = some (.int .i64 tm.a) ∧ W.cell? ⟨w4.heap.size, 7, none⟩ = some (.int .i64 tm.b) ∧ W.cell? ⟨w4.heap.size, 8, none⟩ = some (.slice tm.s tm.l tm.c) ∧ W.cell? ⟨w.heap.size, 0, none⟩ = some (.int .i64 p.a) ∧ W.cell? ⟨w.heap.size, 1, none⟩ = some (.int .i64 p.b) ∧ W.cell? ⟨w.heap.size, 2, none⟩ = some (.slice p.s p.l p.c) ∧ W.cell? ⟨w.heap.size, 3, none⟩ = some (.int .i64 q.a) ∧ W.cell? ⟨w.heap.size, 4, none⟩ = some (.int .i64 q.b) ∧ W.cell? ⟨w.heap.size, 5, none⟩ = some (.slice q.s q.l q.c) ∧ W.cell? ⟨w.heap.size, 6, none⟩ = some (.int .i64 m.a) ∧ W.cell? ⟨w.heap.size, 7, none⟩ = some (.int .i64 m.b) ∧ W.cell? ⟨w.heap.size, 8, none⟩ = some (.slice m.s m.l m.c))
      (first | exact SV.out _ hbT | exact SV.out _ hbS | exact SV.out _ hA1 | go_keep)
      (first
        | (go_at_call 9; (with_reducible refine (KD.out _ hbA).mono ?_); rintro e wS ⟨j1, j2, j3, rfl, u1, u2, u3, hbS1⟩; have hbS := hA1.trans (hbS1.mono hA1.size); have KE := Lib.hid (eqDesk_yes wS tp tq tm ⟨p.a, p.b, some ⟨j1, 0, none⟩, p.l, p.l⟩ ⟨q.a, q.b, some ⟨j2, 0, none⟩, q.l, q.l⟩ ⟨m.a, m.b, some ⟨j3, 0, none⟩, m.l, m.l⟩ xs ys zs xs ys zs (H5.out.2.2.2.1.below hbS) (H5.out.2.2.2.2.1.below hbS) (H5.out.2.2.2.2.2.below hbS) u1.sl u2.sl u3.sl E.out.1 E.out.2.1 E.out.2.2 rfl rfl rfl); unfold desk at KE; dsimp only [desk])
        | (go_at_call 11; (with_reducible refine KE.out.mono ?_); rintro e wT ⟨rfl, hbT1⟩; have hbT := hbS.trans (hbT1.mono hbS.size)))
    have HF := Lib.hid (H5.out.1.trans (hbT.mono H5.out.1.size))
    clear hbT hbT1 hbS hbS1 hbA hA1
    go_wp2_with fail
    go_ret
    exact ⟨rfl, HF.out⟩

end Go.Proofs.Ytgagcfnmgcencaa
