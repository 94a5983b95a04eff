/- eqAlbum, markAlbum, heldAlbum of the exact laws. -/
import Derived.Test.YtkifhajkmgeafaaZt
import Derived.Deep.RegionLaw
namespace Go.Proofs.Ytkifhajkmgeafaa
open Go.RowKit Ieee
set_option maxRecDepth 100000
set_option linter.unusedVariables false
set_option linter.unusedSimpArgs false

theorem getE {xs : List PicX} {i : Nat} {x : PicX} (h : xs[i]? = some x) (hi : i < (xs.map PicX.p).length) : (xs.map PicX.p)[i] = x.p := by
  have : i < xs.length := by simpa using hi
  rw [List.getElem_map]
  rw [List.getElem?_eq_getElem this] at h
  injection h with h; rw [h]

set_option maxHeartbeats 2000000 in
theorem eqPS_yes (w : World) (B1 B2 : Nat) (sa sb : Option Addr) (k ca cb : Nat) (xs ys : List PicX) (h1 : OwnM w B1 (.slice sa k ca) xs) (h2 : OwnM w B2 (.slice sb k cb) ys) (hx : xs.length = k) (hy : ys.length = k) (hk : k ≤ 100) (hs : Sames (xs.map PicX.p) (ys.map PicX.p)) :
    Calls Try.prog 46 #[.slice sa k ca, .slice sb k cb] w fun e w' => e = .returned (.bool true) ∧ Below w.heap.size w w' := by
  have HA := Lib.hid h1
  have HB := Lib.hid h2
  have HS := Lib.hid (And.intro hs (And.intro hx hy))
  clear h1 h2 hs hx hy
  go_enter Try.func46, Try.ntmps46
  go_wp2_with fail
  go_loopw [5] (fun v5 wr => ∃ i : Nat, v5 = .int .i64 i ∧ i ≤ k ∧ Below w.heap.size w wr) (fun v5 _ => k - (intOf v5).toNat)
  case atStart => exact ⟨0, rfl, Nat.zero_le _, Below.refl _ _⟩
  case round =>
    obtain ⟨i, rfl, hi, hb⟩ := hrel
    by_cases hlt : i < k
    · obtain ⟨g, x, hx, hxi, rfl, -, hgl, p0, p1, p2⟩ := (HA.out.below hb).atk HS.out.2.1 i hlt
      obtain ⟨g2, y, hy, hyi, rfl, -, hgl2, r0, r1, r2⟩ := (HB.out.below hb).atk HS.out.2.2 i hlt
      have hltI : (i : Int) < (k : Int) := by omega
      obtain ⟨e1, e2, e3⟩ : x.p.same y.p := by
        have := HS.out.1.get i (by rw [List.length_map, HS.out.2.1]; exact hlt) (by rw [List.length_map, HS.out.2.2]; exact hlt)
        rwa [getE hxi, getE hyi] at this
      have hxo := (HA.out.pic x hx)
      have hyo := (HB.out.pic y hy)
      have hA1 : Below wr.heap.size wr wr.drew := below_drewN (Below.refl _ _) 1
      have hbX := hb.trans (hA1.mono hb.size)
      have KS := Lib.hid (eqP_yes wr.drew (y.p.wd : Int) (y.p.hi : Int) (some ⟨x.q, 0, none⟩) (some ⟨y.q, 0, none⟩) x.p.bs.length y.p.bs.length x.c y.c x.p.bs y.p.bs (hxo.below hbX).sl (hyo.below hbX).sl e3)
      have CELLS := Lib.hid (fun W (hW : Below wr.heap.size wr W) => (show W.cell? ⟨g, i * 3, none⟩ = some (.int .i64 (y.p.wd : Int)) ∧ W.cell? ⟨g, i * 3 + 1, none⟩ = some (.int .i64 (y.p.hi : Int)) ∧ W.cell? ⟨g, i * 3 + 2, none⟩ = some x.sl ∧ W.cell? ⟨g2, i * 3, none⟩ = some (.int .i64 (y.p.wd : Int)) ∧ W.cell? ⟨g2, i * 3 + 1, none⟩ = some (.int .i64 (y.p.hi : Int)) ∧ W.cell? ⟨g2, i * 3 + 2, none⟩ = some y.sl from
        ⟨by rw [hW.cell (p := ⟨g, i * 3, none⟩) hgl]; rw [← e1]; exact p0, by rw [hW.cell (p := ⟨g, i * 3 + 1, none⟩) hgl]; rw [← e2]; exact p1, by rw [hW.cell (p := ⟨g, i * 3 + 2, none⟩) hgl]; exact p2, by rw [hW.cell (p := ⟨g2, i * 3, none⟩) hgl2]; exact r0, by rw [hW.cell (p := ⟨g2, i * 3 + 1, none⟩) hgl2]; exact r1, by rw [hW.cell (p := ⟨g2, i * 3 + 2, none⟩) hgl2]; exact r2⟩))
      have HB1 := Lib.hid hbX
      clear e1 e2 e3 hx hy hxi hyi hxo hyo hbX hb p0 p1 p2 r0 r1 r2
      unfold PicX.sl at *
      generalize y.p.wd = wd at *
      generalize y.p.hi = hi_ at *
      generalize x.p.bs.length = n at *
      generalize y.p.bs.length = n2 at *
      generalize x.q = xq at *
      generalize y.q = yq at *
      generalize x.c = xc at *
      generalize y.c = yc at *
      go_upto_region 6 with fail
      go_region_held3 (fun W => W.cell? ⟨g, i * 3, none⟩ = some (.int .i64 (wd : Int)) ∧ W.cell? ⟨g, i * 3 + 1, none⟩ = some (.int .i64 (hi_ : Int)) ∧ W.cell? ⟨g, i * 3 + 2, none⟩ = some (.slice (some ⟨xq, 0, none⟩) n xc) ∧ W.cell? ⟨g2, i * 3, none⟩ = some (.int .i64 (wd : Int)) ∧ W.cell? ⟨g2, i * 3 + 1, none⟩ = some (.int .i64 (hi_ : Int)) ∧ W.cell? ⟨g2, i * 3 + 2, none⟩ = some (.slice (some ⟨yq, 0, none⟩) n2 yc))
        (first | exact CELLS.out _ hbS | exact CELLS.out _ hA1 | go_keep)
        ((go_at_call 29; (with_reducible refine (KS.out).mono ?_); rintro e wS ⟨rfl, hbS1⟩; have hbS := hA1.trans (hbS1.mono hA1.size)))
      have HB3 := Lib.hid (HB1.out.trans (hbS1.mono (by have := HB1.out.size; exact this)))
      clear hbS1 hbS hA1
      go_wp2_with fail
      go_roundw
      case rel => exact ⟨i + 1, by go_num, by omega, HB3.out⟩
      case measure => simp [intOf]; omega
    · obtain rfl : k = i := by omega
      go_wp2
      go_ret
      exact ⟨rfl, hb⟩

theorem eqAlbum_yes (w : World) (B1 B2 : Nat) (v1 v2 : Value) (xs ys : List PicX) (h1 : OwnM w B1 v1 xs) (h2 : OwnM w B2 v2 ys) (hk : xs.length ≤ 100) (hs : Sames (xs.map PicX.p) (ys.map PicX.p)) :
    Calls Try.prog 19 #[.agg #[v1], .agg #[v2]] w fun e w' => e = .returned (.bool true) ∧ Below w.heap.size w w' := by
  have hyl : ys.length = xs.length := by have := hs.length_eq; rw [List.length_map, List.length_map] at this; exact this.symm
  have hb0 := below_two2 w (.cells #[v1] 26) (.cells #[v2] 26)
  obtain ⟨sa, ca, rfl⟩ : ∃ a c, v1 = .slice a xs.length c := by
    rcases h1.row.2 with ⟨q1, q2⟩ | ⟨g, cap, cur, e, r⟩
    · exact ⟨none, 0, by rw [q1, q2]⟩
    · exact ⟨_, _, e⟩
  obtain ⟨sb, cb, rfl⟩ : ∃ a c, v2 = .slice a ys.length c := by
    rcases h2.row.2 with ⟨q1, q2⟩ | ⟨g, cap, cur, e, r⟩
    · exact ⟨none, 0, by rw [q1, q2]⟩
    · exact ⟨_, _, e⟩
  rw [hyl] at h2 ⊢
  rw [hyl] at hb0
  have K := Lib.hid (eqPS_yes _ B1 B2 sa sb xs.length ca cb xs ys (h1.below hb0) (h2.below hb0) rfl hyl hk hs)
  clear h1 h2 hs hyl
  go_enter Try.func19, Try.ntmps19
  go_wp2_with fail
  refine K.out.mono ?_
  rintro e w' ⟨rfl, hb1⟩
  go_wp2
  go_ret
  exact ⟨rfl, hb0.trans (hb1.mono hb0.size)⟩

theorem OwnM.form {w : World} {B : Nat} {v : Value} {xs : List PicX} (h : OwnM w B v xs) : (v = .slice none 0 0 ∧ xs = []) ∨ ∃ g c, v = .slice (some ⟨g, 0, none⟩) xs.length c := by
  rcases h.row.2 with ⟨h1, h2⟩ | ⟨g, cap, cur, e, r⟩
  · exact .inl ⟨h1, List.length_eq_zero_iff.1 h2⟩
  · exact .inr ⟨g, cap, e⟩
theorem endK_ge : ∀ (xs : List PicX) (k : Nat), k ≤ endK k xs
  | [], k => Nat.le_refl _
  | x :: xs, k => by
    have := endK_ge xs (k + 2 + x.p.bs.length)
    show k ≤ endK (k + 2 + x.p.bs.length) xs
    omega
theorem Below.ofGrown {B : Nat} {w w' : World} {r : Nat} (h : w.grownBy w' (some r)) (hr : B ≤ r) (hB : B ≤ w.heap.size) : Below B w w' :=
  ⟨h.os, h.tape, h.output, h.size, fun k hk => h.block k (by omega) (by intro e; injection e with e; omega)⟩

/-- Nothing but blocks from B to N is written. -/
structure Between (B N : Nat) (w w' : World) : Prop where
  bel : Below B w w'
  up : ∀ k, N ≤ k → k < w.heap.size → w'.heap[k]? = w.heap[k]?
theorem Between.refl (B N : Nat) (w : World) : Between B N w w := ⟨Below.refl _ _, fun _ _ _ => rfl⟩
theorem Between.trans {B N : Nat} {a b c : World} (h : Between B N a b) (k : Between B N b c) : Between B N a c :=
  ⟨h.bel.trans k.bel, fun i h1 h2 => (k.up i h1 (Nat.lt_of_lt_of_le h2 h.bel.size)).trans (h.up i h1 h2)⟩
theorem Between.ofGrown {B N : Nat} {w w' : World} {r : Nat} (h : w.grownBy w' (some r)) (hr : B ≤ r) (hB : B ≤ w.heap.size) (hN : r < N) : Between B N w w' :=
  ⟨Below.ofGrown h hr hB, fun k h1 h2 => h.block k h2 (by intro e; injection e with e; omega)⟩
theorem Between.ofBelow {B N : Nat} {w w' : World} (h : Below w.heap.size w w') (hB : B ≤ w.heap.size) : Between B N w w' :=
  ⟨h.mono hB, fun k _ h2 => h.block k h2⟩

set_option maxHeartbeats 2000000 in
theorem markPS_any (w : World) (B : Nat) (sa : Option Addr) (n sc k : Nat) (xs : List PicX) (h : OwnM w B (.slice sa n sc) xs) (hn : xs.length = n) (hn2 : n ≤ 100) (hk : k ≤ 1000) (hl : ∀ x ∈ xs, x.p.bs.length ≤ 256) (hB : B ≤ w.heap.size) (N : Nat) (hN1 : ∀ g, (Value.slice sa n sc).ownBlock = some g → g < N) (hN2 : ∀ x ∈ xs, x.q < N) :
    Calls Try.prog 47 #[.slice sa n sc, .int .i64 k] w fun e w' => e = .returned (.int .i64 ((endK k xs : Nat) : Int)) ∧ OwnM w' B (.slice sa n sc) (mkL k xs) ∧ Between B N w w' := by
  have HX := Lib.hid (And.intro hn (And.intro hl hB))
  have HN := Lib.hid (And.intro hN1 hN2)
  clear hN1 hN2
  have H0 := Lib.hid h
  clear h hl
  go_enter Try.func47, Try.ntmps47
  go_wp2_with fail
  go_loopw [5, 1] (fun v5 v1 wr => ∃ i : Nat, v5 = .int .i64 i ∧ i ≤ n ∧ v1 = .int .i64 ((endK k (xs.take i) : Nat) : Int) ∧ OwnM wr B (.slice sa n sc) (mkT k i xs) ∧ Between B N w wr) (fun v5 _ _ => n - (intOf v5).toNat)
  case atStart => exact ⟨0, rfl, Nat.zero_le _, rfl, by rw [mkT_zero]; exact H0.out, Between.refl _ _ _⟩
  case round =>
    clear H0
    obtain ⟨i, rfl, hi, rfl, hown, hb⟩ := hrel
    by_cases hlt : i < n
    · obtain ⟨x, hx⟩ : ∃ x, xs[i]? = some x := ⟨_, List.getElem?_eq_getElem (by rw [HX.out.1]; exact hlt)⟩
      have hxm : x ∈ xs := List.mem_of_getElem? hx
      have hml : (mkT k i xs).length = n := by rw [mkT_len, HX.out.1]
      obtain ⟨g, y, hy, hyi, rfl, hgB, hgl, p0, p1, p2⟩ := hown.atk hml i hlt
      rw [mkT_get hx] at hyi
      injection hyi with hyi
      subst hyi
      have hltI : (i : Int) < (n : Int) := by omega
      have hxl := HX.out.2.1 x hxm
      have hKle : endK k (xs.take i) ≤ 1000 + 258 * 100 := by
        have h1 := endK_le (xs.take i) k fun y hy => HX.out.2.1 y (List.mem_of_mem_take hy)
        have h2 : (xs.take i).length ≤ 100 := by rw [List.length_take]; omega
        omega
      have HSU := Lib.hid (And.intro (mkT_succ (k := k) hx) (endK_succ (k := k) hx))
      obtain ⟨K, hK⟩ : ∃ K, endK k (xs.take i) = K := ⟨_, rfl⟩
      rw [hK] at hKle HSU ⊢
      obtain ⟨W1, hW1⟩ : ∃ W, W = (wr.setCell ⟨g, i * 3, none⟩ (.int .i64 (K : Int))).setCell ⟨g, i * 3 + 1, none⟩ (.int .i64 ((K + 1 : Nat) : Int)) := ⟨_, rfl⟩
      have hfr : ∀ j, wr.frozen? ⟨g, j, none⟩ = false := fun j => World.ownsRow.frozenAt (n := (mkT k i xs).length) (by have := hown.row; rw [hml]; rw [hml] at this; exact this) j
      have hgq : g ≠ x.q := fun e => hown.ne x hy (by rw [e]; rfl)
      have hg1 : wr.grownBy W1 (some g) := by rw [hW1]; exact grown_trans2 (grown_setCell _ _ _) (grown_setCell _ _ _)
      have hox : OwnF W1 B x.sl x.p.bs := (hown.pic x hy).grown hg1 (.inr (by show some x.q ≠ some g; intro e; injection e with e; exact hgq e.symm))
      have hqB := (hown.pic x hy).lt (k := x.q) rfl
      have KM := Lib.hid (markF_any W1 B x.sl x.p.bs (K + 2) (by omega) hox)
      have HM := Lib.hid (fun w2 h1 h2 => OwnM.mark (w := wr) (w1 := W1) (w2 := w2) (wd := K) (hi := K + 1) (ms := marks (K + 2) x.p.bs.length) hown hml (mkT_get (k := k) hx) (marks_length _ _) hW1 h1 h2)
      have f0 := hfr (i * 3)
      have f1 := hfr (i * 3 + 1)
      have HG := Lib.hid (And.intro (show Between B N wr W1 from Between.ofGrown hg1 hgB (Nat.le_trans HX.out.2.2 hb.bel.size) (HN.out.1 g rfl)) (And.intro hqB (And.intro (Nat.le_trans HX.out.2.2 (Nat.le_trans hb.bel.size hg1.size)) (HN.out.2 x hxm))))
      have z2 : W1.cell? ⟨g, i * 3 + 2, none⟩ = some x.sl := by
        have q1 : (⟨g, i * 3 + 1, none⟩ : Addr) ≠ ⟨g, i * 3 + 2, none⟩ := by simp
        have q2 : (⟨g, i * 3, none⟩ : Addr) ≠ ⟨g, i * 3 + 2, none⟩ := by simp
        rw [hW1, World.cell?_setCell_other (h := q1), World.cell?_setCell_other (h := q2)]; exact p2
      have HZ := Lib.hid z2
      have HW1 := Lib.hid hW1
      have HB := Lib.hid hb
      have e1 : ((K + 1 : Nat) : Int) = (K : Int) + 1 := by omega
      have e2 : ((K + 2 : Nat) : Int) = (K : Int) + 1 + 1 := by omega
      rw [e1] at HW1
      rw [e2] at KM
      have hKI : (K : Int) ≤ 26800 := by omega
      rw [HW1.out] at z2
      clear hW1 hox hg1 hx hxm hy hml hK hKle e1 e2 hb hown
      unfold PicX.sl at p2 z2 KM
      go_wp2_with fail
      rw [← HW1.out]
      refine KM.out.mono ?_
      rintro e w2 ⟨rfl, ho2, hg2⟩
      have HE := Lib.hid (And.intro (HM.out w2 ho2 hg2) hg2)
      clear ho2 hg2 z2 p0 p1 p2 f0 f1
      go_wp2_with fail
      go_roundw
      case rel =>
        refine ⟨i + 1, by go_num, by omega, ?_, ?_, ?_⟩
        · rw [HSU.out.2]; congr 1
        · rw [HSU.out.1]; exact HE.out.1
        · exact (HB.out.trans HG.out.1).trans (Between.ofGrown HE.out.2 HG.out.2.1.1 HG.out.2.2.1 HG.out.2.2.2)
      case measure => simp [intOf]; omega
    · obtain rfl : n = i := by omega
      have hal : mkT k n xs = mkL k xs := by rw [← HX.out.1, mkT_all]
      have hak : endK k (xs.take n) = endK k xs := by rw [← HX.out.1, List.take_length]
      rw [hal] at hown
      rw [hak]
      go_wp2_with fail
      go_ret
      exact ⟨rfl, hown, hb⟩

theorem mkL_q : ∀ (xs : List PicX) (k : Nat), (mkL k xs).length = xs.length := mkL_length
theorem OwnM.len {w : World} {B : Nat} {v : Value} {xs : List PicX} (h : OwnM w B v xs) : ∃ a c, v = .slice a xs.length c := by
  rcases h.row.2 with ⟨q1, q2⟩ | ⟨g, cap, cur, e, r⟩
  · exact ⟨none, 0, by rw [q1, q2]⟩
  · exact ⟨_, _, e⟩
theorem markAlbum_any (w : World) (B : Nat) (v : Value) (k : Nat) (xs : List PicX) (h : OwnM w B v xs) (hn2 : xs.length ≤ 100) (hk : k ≤ 1000) (hl : ∀ x ∈ xs, x.p.bs.length ≤ 256) (hB : B ≤ w.heap.size) (N : Nat) (hN1 : ∀ g, v.ownBlock = some g → g < N) (hN2 : ∀ x ∈ xs, x.q < N) :
    Calls Try.prog 20 #[.agg #[v], .int .i64 k] w fun e w' => e = .returned (.int .i64 ((endK k xs : Nat) : Int)) ∧ OwnM w' B v (mkL k xs) ∧ Between B N w w' := by
  have hb0 : Below w.heap.size w (w.alloc (.cells #[v] 26)) := (Below.refl _ _).alloc (Nat.le_refl _) _
  obtain ⟨sa, sc, rfl⟩ := h.len
  have K := Lib.hid (markPS_any _ B sa xs.length sc k xs (h.below hb0) rfl hn2 hk hl (Nat.le_trans hB hb0.size) N hN1 hN2)
  clear h hl hN1 hN2
  obtain ⟨E, hE⟩ : ∃ E, endK k xs = E := ⟨_, rfl⟩
  rw [hE] at K ⊢
  go_enter Try.func20, Try.ntmps20
  go_wp2_with fail
  refine K.out.mono ?_
  rintro e w' ⟨rfl, ho, hb1⟩
  go_wp2
  go_ret
  exact ⟨rfl, ho, (Between.ofBelow hb0 hB).trans hb1⟩

set_option maxHeartbeats 2000000 in
theorem heldPS_yes (w : World) (B : Nat) (sa : Option Addr) (n sc k : Nat) (xs : List PicX) (h : OwnM w B (.slice sa n sc) (mkL k xs)) (hn : xs.length = n) (hn2 : n ≤ 100) (hk : k ≤ 1000) (hl : ∀ x ∈ xs, x.p.bs.length ≤ 256) :
    Calls Try.prog 48 #[.slice sa n sc, .int .i64 k] w fun e w' => e = .returned (.int .i64 ((endK k xs : Nat) : Int)) ∧ w = w' := by
  have HX := Lib.hid (And.intro hn hl)
  have H0 := Lib.hid h
  clear h hl
  go_enter Try.func48, Try.ntmps48
  go_wp2_with fail
  go_loop [5, 1] (fun v5 v1 => ∃ i : Nat, v5 = .int .i64 i ∧ i ≤ n ∧ v1 = .int .i64 ((endK k (xs.take i) : Nat) : Int)) (fun v5 _ => n - (intOf v5).toNat)
  case atStart => exact ⟨0, rfl, Nat.zero_le _, rfl⟩
  case round =>
    obtain ⟨i, rfl, hi, rfl⟩ := hrel
    by_cases hlt : i < n
    · obtain ⟨x, hx⟩ : ∃ x, xs[i]? = some x := ⟨_, List.getElem?_eq_getElem (by rw [HX.out.1]; exact hlt)⟩
      have hxm : x ∈ xs := List.mem_of_getElem? hx
      have hml : (mkL k xs).length = n := by rw [mkL_length, HX.out.1]
      obtain ⟨g, y, hy, hyi, rfl, hgB, hgl, p0, p1, p2⟩ := H0.out.atk hml i hlt
      rw [mkL_get hx] at hyi
      injection hyi with hyi
      subst hyi
      have hltI : (i : Int) < (n : Int) := by omega
      have hxl := HX.out.2 x hxm
      have hKle : endK k (xs.take i) ≤ 1000 + 258 * 100 := by
        have h1 := endK_le (xs.take i) k fun y hy => HX.out.2 y (List.mem_of_mem_take hy)
        have h2 : (xs.take i).length ≤ 100 := by rw [List.length_take]; omega
        omega
      have HSU := Lib.hid (endK_succ (k := k) hx)
      have hown := H0.out.pic _ hy
      obtain ⟨K, hK⟩ : ∃ K, endK k (xs.take i) = K := ⟨_, rfl⟩
      rw [hK] at hKle HSU hown p0 p1 p2 ⊢
      have KH := Lib.hid (heldF_yes w (mkP K x).sl (K + 2) x.p.bs.length (by omega) hown.sl)
      have e1 : ((mkP K x).p.wd : Int) = (K : Int) := rfl
      have e2 : ((mkP K x).p.hi : Int) = (K : Int) + 1 := by show ((K + 1 : Nat) : Int) = _; omega
      have e3 : ((K + 2 : Nat) : Int) = (K : Int) + 1 + 1 := by omega
      rw [e1] at p0
      rw [e2] at p1
      rw [e3] at KH
      unfold PicX.sl at p2 KH
      have q1 : ((K : Int) != (K : Int)) = false := by simp
      have q2 : ((K : Int) + 1 != (K : Int) + 1) = false := by simp
      clear e1 e2 e3 hy hown hK hx hxm hml
      generalize (mkP K x).p.bs.length = len at *
      generalize (mkP K x).q = xq at *
      generalize (mkP K x).c = xc at *
      have hKI : (K : Int) ≤ 26800 := by omega
      obtain ⟨E, hE⟩ : ∃ E, E = K + 2 + x.p.bs.length := ⟨_, rfl⟩
      rw [← hE] at KH HSU
      have q4 : decide ((E : Int) < 0) = false := decide_eq_false (by omega)
      have q5 : ¬ (E : Int) < 0 := by omega
      clear hE
      go_wp2_with fail
      refine KH.out.mono ?_
      rintro e w2 ⟨rfl, rfl⟩
      clear p0 p1 p2
      go_wp2_with fail
      go_round
      case rel => exact ⟨i + 1, by go_num, by omega, by rw [HSU.out]⟩
      case measure => simp [intOf]; omega
    · obtain rfl : n = i := by omega
      have hak : endK k (xs.take n) = endK k xs := by rw [← HX.out.1, List.take_length]
      rw [hak]
      go_wp2_with fail
      go_ret
      exact ⟨rfl, rfl⟩

theorem heldAlbum_yes (w : World) (B : Nat) (v : Value) (k : Nat) (xs : List PicX) (h : OwnM w B v (mkL k xs)) (hn2 : xs.length ≤ 100) (hk : k ≤ 1000) (hl : ∀ x ∈ xs, x.p.bs.length ≤ 256) :
    Calls Try.prog 21 #[.agg #[v], .int .i64 k] w fun e w' => e = .returned (.int .i64 ((endK k xs : Nat) : Int)) ∧ Below w.heap.size w w' := by
  have hb0 : Below w.heap.size w (w.alloc (.cells #[v] 26)) := (Below.refl _ _).alloc (Nat.le_refl _) _
  obtain ⟨sa, sc, rfl⟩ := h.len
  rw [mkL_length] at h hb0 ⊢
  have K := Lib.hid (heldPS_yes _ B sa xs.length sc k xs (h.below hb0) rfl hn2 hk hl)
  clear h hl
  obtain ⟨E, hE⟩ : ∃ E, endK k xs = E := ⟨_, rfl⟩
  rw [hE] at K ⊢
  have q4 : decide ((E : Int) < 0) = false := decide_eq_false (by omega)
  go_enter Try.func21, Try.ntmps21
  go_wp2_with fail
  refine K.out.mono ?_
  rintro e w' ⟨rfl, rfl⟩
  go_wp2
  go_ret
  exact ⟨rfl, hb0⟩

end Go.Proofs.Ytkifhajkmgeafaa
