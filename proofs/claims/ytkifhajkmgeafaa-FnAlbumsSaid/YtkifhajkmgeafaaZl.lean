/- Albums that are drawn. -/
import Derived.Test.YtkifhajkmgeafaaZi
import Derived.Test.YtkifhajkmgeafaaPix
namespace Go.Proofs.Ytkifhajkmgeafaa
open Go.RowKit
set_option maxRecDepth 100000
set_option linter.unusedVariables false
set_option linter.unusedSimpArgs false

theorem OwnA.grownR {w w' : World} {B : Nat} {v : Value} {xs : List PicX} {k : Nat} (h : OwnA w B v xs) (hg : w.grownBy w' (some k)) (hk : k < B) : OwnA w' B v xs := by
  refine ⟨h.row.kept hg ?_, fun x hx => ⟨(h.pic x hx).1.grown hg (.inr ?_), (h.pic x hx).2⟩, h.ne, h.nd⟩
  · cases e : v.ownBlock with
    | none => exact .inl rfl
    | some j => exact .inr (by have := (h.row.lt j e).1; intro q; injection q with q; omega)
  · have := (h.qlt hx).1
    show some x.q ≠ some k
    intro q; injection q with q; omega
/-- An album that is being drawn. -/
structure AccG (w wr : World) (L sb U lb : Nat) (v : Value) (xs : List PicX) : Prop where
  gro : w.grownBy wr (some sb)
  src : SrcOk wr L sb U
  box : BoxN wr lb #[v] 26
  own : OwnA wr w.heap.size v xs
  ne : some lb ≠ v.ownBlock
  nq : ∀ x ∈ xs, x.q ≠ lb
  lbf : w.heap.size ≤ lb
  sbl : sb < w.heap.size
  hL : L ≤ w.heap.size
theorem AccG.step {w wr w1 w2 : World} {L sb U V lb k : Nat} {v : Value} {xs : List PicX} {x : PicX} {T : TypeId} {gg cap : Nat} {cs : List Value} (h : AccG w wr L sb U lb v xs) (hk : xs.length = k)
    (hb : Drew L sb V wr w1) (hx : OwnF w1 wr.heap.size x.sl x.p.bs) (hok : x.p.ok) (hcs : x.cells = cs)
    (hown : w2.ownsRow w.heap.size 41 3 (.slice (some ⟨gg, 0, none⟩) (k + 1) cap) (k + 1) (pxCells xs ++ cs))
    (hg : (w1.alloc (.cells cs.toArray T)).grownBy w2 v.ownBlock) (hat : v.ownBlock = some gg ∨ gg = w1.heap.size + 1) :
    AccG w (w2.setCell ⟨lb, 0, none⟩ (.slice (some ⟨gg, 0, none⟩) (k + 1) cap)) L sb V lb (.slice (some ⟨gg, 0, none⟩) (k + 1) cap) (xs ++ [x]) := by
  subst hk hcs
  have hal : Below w1.heap.size w1 (w1.alloc (.cells x.cells.toArray T)) := (Below.refl _ _).alloc (Nat.le_refl _) _
  have hlt := h.box.lt
  have s1 : wr.heap.size ≤ w1.heap.size := hb.grown.size
  have s0 := h.gro.size
  have hsb := h.sbl
  have hlb := h.lbf
  have hxq := hx.lt (k := x.q) rfl
  have hgg : gg ≠ lb := by
    rcases hat with e | e
    · intro q; exact h.ne (by rw [e, q])
    · omega
  have hgv : ∀ k, v.ownBlock = some k → w.heap.size ≤ k ∧ k < wr.heap.size := fun k hk => h.own.row.lt k hk
  have hgq : ∀ y ∈ xs, gg ≠ y.q := fun y hy e => by
    have := (h.own.qlt hy).2
    rcases hat with e2 | e2
    · exact h.own.ne y hy (by rw [e2, e])
    · omega
  have hgx : gg ≠ x.q := fun e => by
    rcases hat with e2 | e2
    · have := (hgv gg e2).2; omega
    · omega
  have hsbv : some sb ≠ v.ownBlock := fun e => by have := (hgv sb e.symm).1; omega
  have hset := grown_setCell w2 ⟨lb, 0, none⟩ (.slice (some ⟨gg, 0, none⟩) (xs.length + 1) cap)
  have hg0 : w.grownBy (w1.alloc (.cells x.cells.toArray T)) (some sb) := grown_trans (grown_trans h.gro hb.grown) (grown_below hal _)
  have hgr : w.grownBy w2 (some sb) := by
    refine ⟨hg.os.trans hg0.os, hg.tape.trans hg0.tape, hg.output.trans hg0.output, Nat.le_trans hg0.size hg.size, fun i hi hn => ?_⟩
    rw [hg.block i (Nat.lt_of_lt_of_le hi hg0.size) (fun e => by have := (hgv i e.symm).1; omega), hg0.block i hi hn]
  refine ⟨?_, ?_, ?_, ⟨?_, ?_, ?_, ?_⟩, by simp [Value.ownBlock]; exact fun e => hgg e.symm, ?_, h.lbf, h.sbl, h.hL⟩
  · refine ⟨hset.os.trans hgr.os, hset.tape.trans hgr.tape, hset.output.trans hgr.output, Nat.le_trans hgr.size hset.size, fun i hi hn => ?_⟩
    rw [hset.block i (Nat.lt_of_lt_of_le hi hgr.size) (fun e => by injection e with e; have e : i = lb := e; omega), hgr.block i hi hn]
  · refine (((hb.ok.below hal).grown hg hsbv (fun k hk => by have := (hgv k hk).1; have := h.hL; omega)).grown hset (fun e => by injection e with e; have e : sb = lb := e; omega) (fun k hk => by injection hk with hk; have hk : lb = k := hk; have := h.hL; omega))
  · have := (((h.box.grown hb.grown (fun e => by injection e with e; omega)).below hal).grown hg h.ne).set 0 (.slice (some ⟨gg, 0, none⟩) (xs.length + 1) cap)
    simpa using this
  · have k := hown.kept hset (.inr (by simp [Value.ownBlock]; exact hgg))
    rw [List.length_append, List.length_singleton, pxCells_app]
    exact k
  · intro y hy
    rcases List.mem_append.1 hy with hy | hy
    · have hq := h.own.ne y hy
      have hyq := (h.own.qlt hy).1
      have h1 := ((((h.own.pic y hy).1.grown hb.grown (.inr (by show some y.q ≠ some sb; intro e; injection e with e; omega))).below hal).grown hg (.inr (by show some y.q ≠ _; exact fun e => hq e.symm))).grown hset (.inr (by show some y.q ≠ some lb; intro e; injection e with e; exact h.nq y hy e))
      exact ⟨h1, (h.own.pic y hy).2⟩
    · rw [List.mem_singleton] at hy; subst hy
      have h1 := (((hx.below hal).grown hg (.inr (by show some y.q ≠ _; intro e; have := (hgv y.q e.symm).2; omega))).grown hset (.inr (by show some y.q ≠ some lb; intro e; injection e with e; omega))).mono h.gro.size
      exact ⟨h1, hok⟩
  · intro y hy
    rcases List.mem_append.1 hy with hy | hy
    · intro e; simp only [Value.ownBlock, Option.some.injEq] at e; exact hgq y hy e
    · rw [List.mem_singleton] at hy; subst hy
      intro e; simp only [Value.ownBlock, Option.some.injEq] at e; exact hgx e
  · rw [List.map_append, List.map_singleton, List.pairwise_append]
    refine ⟨h.own.nd, by simp, fun a ha b hb => ?_⟩
    rw [List.mem_singleton] at hb; subst hb
    obtain ⟨y, hy, rfl⟩ := List.mem_map.1 ha
    have := (h.own.qlt hy).2
    omega
  · intro y hy
    rcases List.mem_append.1 hy with hy | hy
    · exact h.nq y hy
    · rw [List.mem_singleton] at hy; subst hy; omega

theorem bs_ne {wd hi : Nat} {bs : List Nat} (h1 : 2 ≤ wd) (h2 : 1 ≤ hi) (h : bs.length = wd * hi) : bs ≠ [] := fun e => by
  have := Nat.mul_pos (show 0 < wd by omega) (show 0 < hi by omega)
  rw [e] at h; simp at h; omega
theorem pic_ok {wd hi : Nat} {bs : List Nat} (h1 : 2 ≤ wd) (h2 : wd ≤ 6) (h3 : 1 ≤ hi) (h4 : hi ≤ 4) (h : bs.length = wd * hi) (hb : ∀ b ∈ bs, b < 4294967296) : (⟨wd, hi, bs⟩ : PicB).ok := by
  have := Nat.mul_le_mul h2 h4
  refine ⟨?_, hb⟩
  show vPic wd hi bs.length = true
  rw [h]; exact vPic_of (by omega) (by omega) h3 (by omega) (by omega)
theorem row_kept {w w' : World} {B sb k : Nat} {v : Value} {cs : List Value} {T : TypeId} (h : w.ownsRow B T 3 v k cs) (hg : w.grownBy w' (some sb)) (hsb : sb < B) : w'.ownsRow B T 3 v k cs := by
  refine h.kept hg ?_
  cases e : v.ownBlock with
  | none => exact .inl rfl
  | some j => exact .inr (by have := (h.lt j e).1; intro q; injection q with q; omega)
/-- An album that is drawn. -/
def DrawsA (L sb U : Nat) (w : World) (e : Ending) (w' : World) : Prop :=
  ∃ v xs, e = .returned (.agg #[v]) ∧ xs.length ≤ 3 ∧ OwnA w' w.heap.size v xs ∧ Drew L sb U w w'
set_option maxHeartbeats 4000000 in
theorem l07DrawOk_any (w : World) {L : Nat} (sb U : Nat) (hs : SrcOk w L sb U) (hL : L ≤ w.heap.size) (hU : U < 4611686018427200000) :
    Calls Try.prog 32 #[.pointer (some ⟨sb, 0, none⟩)] w (DrawsA L sb (U + 4000) w) := by
  obtain ⟨i0, hi0, hz0, hz1, hz2⟩ := info_parts info_picI
  obtain ⟨wA, hwA⟩ : ∃ wA, wA = w.alloc (.cells #[.slice none 0 0] 26) := ⟨_, rfl⟩
  have hbA : Below w.heap.size w wA := by rw [hwA]; exact (Below.refl _ _).alloc (Nat.le_refl _) _
  have hR : BoxN wA w.heap.size #[.slice none 0 0] 26 := by rw [hwA]; exact BoxN.last w _ _
  have hsA : wA.heap.size = w.heap.size + 1 := by rw [hwA]; simp
  have hslt := hs.lt
  have HWA := Lib.hid hwA
  go_enter Try.func32, Try.ntmps32
  go_wp2_with fail
  obtain ⟨wB, hwB⟩ : ∃ W, W = wA.alloc (.cells #[] 41) := ⟨_, rfl⟩
  obtain ⟨wC, hwC⟩ : ∃ W, W = wB.alloc (.cells #[.slice (some ⟨wA.heap.size, 0, none⟩) 0 0] 26) := ⟨_, rfl⟩
  have hsB : wB.heap.size = w.heap.size + 2 := by rw [hwB]; simp; omega
  have hbB : Below wA.heap.size wA wB := by rw [hwB]; exact (Below.refl _ _).alloc (Nat.le_refl _) _
  have hbC : Below wB.heap.size wB wC := by rw [hwC]; exact (Below.refl _ _).alloc (Nat.le_refl _) _
  have hbAC : Below wA.heap.size wA wC := hbB.trans (hbC.mono hbB.size)
  obtain ⟨ob, hob⟩ : ∃ o, o = wB.heap.size := ⟨_, rfl⟩
  have hstart : AccG wA wC L sb U ob (.slice (some ⟨wA.heap.size, 0, none⟩) 0 0) [] := by
    refine ⟨grown_below hbAC _, hs.below (hbA.trans (hbAC.mono hbA.size)), ?_, ⟨⟨rfl, .inr ⟨wA.heap.size, 0, #[], rfl, Nat.le_refl _, ?_, Nat.le_refl _, by unfold maxLen; omega, rfl, rfl⟩⟩, by simp, by simp, by simp⟩, ?_, by simp, by omega, by omega, by omega⟩
    · rw [hob, hwC]; exact BoxN.last _ _ _
    · have h1 : wB.heap[wA.heap.size]? = some (.cells #[] 41 (0, 0)) := by rw [hwB]; exact heap_alloc_new wA _
      rw [hbC.block wA.heap.size (by omega)]; exact h1
    · simp [Value.ownBlock]; omega
  have HR := Lib.hid (And.intro hbA hR)
  have hwBC : ((((w.alloc (.cells #[.slice none 0 0] 26)).alloc (.cells #[] 41)).alloc (.cells #[.slice (some ⟨w.heap.size + 1, 0, none⟩) 0 0] 26))) = wC := by rw [hwC, hwB, hwA]; simp
  have hobw : w.heap.size + 1 + 1 = ob := by rw [hob, hsB]
  rw [hwBC, hobw]
  have HSA := Lib.hid (And.intro hsA hslt)
  refine (pick_any _ _ _ 4 (by omega) (by omega) hstart.src (by omega)).mono ?_
  rintro e w2 ⟨z, rfl, z0, z1, hd⟩
  obtain ⟨z, rfl⟩ := Int.eq_ofNat_of_zero_le z0
  have hacc : AccG wA w2 L sb (U + 2) ob (.slice (some ⟨wA.heap.size, 0, none⟩) 0 0) [] :=
    ⟨grown_trans hstart.gro hd.grown, hd.ok, hstart.box.grown hd.grown (fun e => by injection e with e; have := hstart.lbf; have := hstart.sbl; omega), hstart.own.grownR hd.grown hstart.sbl, hstart.ne, hstart.nq, hstart.lbf, hstart.sbl, hstart.hL⟩
  have HACC := Lib.hid hacc
  have hz3 : z ≤ 3 := by omega
  clear hacc hd hstart hwBC hobw hwB hwC hsB hbB hbC hbAC hob z0 z1 hs hbA hR hwA hsA
  go_wp2_with fail
  go_loopw [4] (fun v4 wr => ∃ (j : Nat) (v : Value) (xs : List PicX), v4 = .int .i64 j ∧ xs.length + j ≤ 3 ∧ AccG wA wr L sb (U + 2 + 1000 * xs.length) ob v xs) (fun v4 _ => (intOf v4).toNat)
  case atStart => exact ⟨z, _, [], rfl, by simp; exact hz3, HACC.out⟩
  case round =>
    clear HACC
    obtain ⟨j, v, xs, rfl, hj, hacc⟩ := hrel
    obtain ⟨va, vc, rfl, hc1, hc2⟩ := hacc.own.form
    obtain ⟨k, hk⟩ : ∃ k, xs.length = k := ⟨_, rfl⟩
    rw [hk] at hacc hc1 hj
    by_cases hlt : 0 < j
    · have hltI : (0 : Int) < (j : Int) := by omega
      have hbox := hacc.box
      have hne := hacc.ne
      have hsrc := hacc.src
      have hrow : wr.ownsRow wA.heap.size 41 3 (.slice va k vc) k (pxCells xs) := by
        have := hacc.own.row; rwa [hk] at this
      have hbD : Below wr.heap.size wr wr.drew := below_drewN (Below.refl _ _) 1
      have hsz := hacc.gro.size
      have hLr : L ≤ wr.heap.size := by have := hacc.hL; omega
      have hrs := hacc.own
      have hsbl := hacc.sbl
      have KD := Lib.hid (l02DrawOk_any wr.drew sb _ (hsrc.below hbD) (show L ≤ wr.drew.heap.size from hLr) (by omega))
      have HST := Lib.hid (fun (x : PicX) (cs : List Value) w1 gg cap w2 h1 h2 h3 h4 h5 h6 h7 => hacc.step (cs := cs) (V := U + 2 + 1000 * k + 1000) (x := x) (w1 := w1) (w2 := w2) (gg := gg) (cap := cap) (T := 41) hk h1 h2 h3 h4 h5 h6 h7)
      have HK := Lib.hid hk
      have HBD := Lib.hid hbD
      have c0 : wr.cell? ⟨ob, 0, none⟩ = some (.slice va k vc) := hbox.cell 0
      have hlbf := hacc.lbf
      have hk3 : k ≤ 3 := by omega
      clear hacc hk hrs hsrc hbD
      go_upto_region 5 with fail
      go_region_law (first
        | (refine step_append_lies _ (by rfl) _ _ _ (by rfl) wA.heap.size 41 i0 _ 3 40 Try.underlying24 hi0 hz0 hz1 hz2 rfl (by omega) (.slice va k vc) k _ (by rfl) (World.ownsRow.alloc hown1 _) ⟨w1.heap.size, 0, none⟩ 1 1 [.int .i64 wd, .int .i64 hi_, .slice (some ⟨q1, 0, none⟩) bs.length c1] (by rfl) (by rfl) (cells_new3 _ _ _ _ _) (by simp [Value.oneCell']) (by omega) (by unfold maxLen; omega) (by omega) (by simp; omega) (w1.heap.size + 1) (by simp) ?_; intro gg cap w2 hown2 hgrow hat hlt2; have hbg := (hbox1.below ((Below.refl w1.heap.size w1).alloc (Nat.le_refl _) (.cells #[.int .i64 wd, .int .i64 hi_, .slice (some ⟨q1, 0, none⟩) bs.length c1] 41))).grown hgrow hne; have g0 : w2.cell? ⟨ob, 0, none⟩ = some (.slice va k vc) := hbg.cell 0; have g1 : w2.frozen? ⟨ob, 0, none⟩ = false := hbg.free 0; have g2 := hbg.lt)
        | (go_simp; refine KD.out.mono ?_; rintro e w1 ⟨wd, hi_, a1, c1, bs, rfl, q2, q3, q4, q5, q6, hxo, hd⟩; obtain ⟨q1, rfl⟩ := own_some hxo (bs_ne q2 q4 q6); have hd2 : Drew L sb (U + 2 + 1000 * k + 1000) wr w1 := ⟨hd.1, grown_trans (grown_drewN wr 1 _) hd.2⟩; have hbox1 := hbox.grown hd2.grown (fun e => by injection e with e; omega); have c0' : w1.cell? ⟨ob, 0, none⟩ = some (.slice va k vc) := hbox1.cell 0; have c4 : ∀ o, (w1.alloc o).cell? ⟨ob, 0, none⟩ = some (.slice va k vc) := (fun o => (hbox1.below ((Below.refl _ _).alloc (Nat.le_refl _) o)).cell 0); have hown1 := row_kept hrow hd2.grown hsbl; have hz2' : wA.heap.size ≤ w1.heap.size := (by have := hd2.grown.size; omega); have HX := Lib.hid (And.intro hd2 (And.intro hxo (pic_ok q2 q3 q4 q5 q6 hxo.2))); clear hd hd2 hxo q6))
      all_goals
        have hacc3 := HST.out ⟨⟨wd, hi_, bs⟩, q1, c1⟩ _ w1 gg cap w2 HX.out.1 HX.out.2.1 HX.out.2.2 rfl hown2 hgrow hat
        have HA3 := Lib.hid hacc3
        clear hown2 hgrow hat c0' c4 hown1 hbox1 hbg g0 g1 g2 hacc3 hbox hne hrow c0
        go_wp2
        go_roundw
        case rel => exact ⟨j - 1, _, xs ++ [⟨⟨wd, hi_, bs⟩, q1, c1⟩], by rw [show ((j - 1 : Nat) : Int) = (j : Int) - 1 by omega], by rw [List.length_append, HK.out]; simp; omega, by rw [List.length_append, HK.out, List.length_singleton, Nat.mul_add, ← Nat.add_assoc]; exact HA3.out⟩
        case measure => simp [intOf]; omega
    · obtain rfl : j = 0 := by omega
      have hRX := HR.out.2.grown hacc.gro (fun e => by injection e with e; have := HSA.out.2; omega)
      have rr : wr.cell? ⟨w.heap.size, 0, none⟩ = some (.slice none 0 0) := hRX.cell 0
      have rf : wr.frozen? ⟨w.heap.size, 0, none⟩ = false := hRX.free 0
      have c0 : wr.cell? ⟨ob, 0, none⟩ = some (.slice va k vc) := hacc.box.cell 0
      have hRl := hRX.lt
      have h1 := (hacc.own.set (a := ⟨w.heap.size, 0, none⟩) (by show w.heap.size < _; rw [HSA.out.1]; omega) (.slice va k vc)).mono (B' := w.heap.size) (by rw [HSA.out.1]; omega)
      have hset := grown_setCell wr ⟨w.heap.size, 0, none⟩ (.slice va k vc)
      have hgw : w.grownBy wr (some sb) := grown_trans (grown_below HR.out.1 _) hacc.gro
      have hdr : Drew L sb (U + 4000) w (wr.setCell ⟨w.heap.size, 0, none⟩ (.slice va k vc)) := by
        refine ⟨(hacc.src.grown hset (fun e => by injection e with e; have e : sb = w.heap.size := e; have := HSA.out.2; omega) (fun k hk => by injection hk with hk; have hk : w.heap.size = k := hk; omega)).mono (by omega), ?_⟩
        refine ⟨hset.os.trans hgw.os, hset.tape.trans hgw.tape, hset.output.trans hgw.output, Nat.le_trans hgw.size hset.size, fun i hi hn => ?_⟩
        rw [hset.block i (Nat.lt_of_lt_of_le hi hgw.size) (fun e => by injection e with e; have e : i = w.heap.size := e; omega), hgw.block i hi hn]
      have HFIN := Lib.hid (And.intro h1 hdr)
      have hk3 : xs.length ≤ 3 := by omega
      clear h1 hset hgw hdr hRX hacc
      go_wp2_with fail
      refine bodyPost_ret (v := .agg #[.slice va k vc]) (by simp [results, Try.results32, go_sem, rr, rf, hRl]) rfl ?_
      exact ⟨_, xs, rfl, hk3, HFIN.out.1, HFIN.out.2⟩

theorem r8Album_any (w : World) (a : Option Addr) (len cap : Nat) (h : BytesIn w a len) :
    Calls Try.prog 9 #[.slice a len cap] w fun e w' => ∃ v xs, e = .returned (.agg #[v]) ∧ xs.length ≤ 3 ∧ OwnA w' w.heap.size v xs ∧ Below w.heap.size w w' := by
  go_enter Try.func9, Try.ntmps9
  go_wp2_with fail
  have ha0 : Below w.heap.size w (w.alloc (.cells #[.slice none 0 0] 26)) := (Below.refl _ _).alloc (Nat.le_refl _) _
  have hres := BoxN.last w #[.slice none 0 0] 26
  refine (from_any _ _ _ _ (h.at.grown (grown_below ha0 none) (fun k hk => by cases hk)) (by simp)).mono ?_
  rintro e w1 ⟨rfl, hs, hb, hlt⟩
  have hres := hres.below hb
  have hbel := ha0.trans (hb.mono ha0.size)
  have hsz : w.heap.size + 1 < w1.heap.size := by simpa using hlt
  have hs : SrcOk w1 w.heap.size (w.heap.size + 1) 0 := by simpa using hs
  clear ha0 hb hlt h
  go_wp2_with fail
  refine (l07DrawOk_any _ _ _ hs (by omega) (by omega)).mono ?_
  rintro e w2 ⟨v, xs, rfl, hl3, hown, hd⟩
  have hbel2 : Below w.heap.size w w2 := hbel.grown hd.grown (by omega) (fun k hk => by injection hk with e; omega)
  have hres2 := hres.grown hd.grown (by simp)
  have d0 : w2.cell? ⟨w.heap.size, 0, none⟩ = some (.slice none 0 0) := hres2.cell 0
  have df : w2.frozen? ⟨w.heap.size, 0, none⟩ = false := hres2.free 0
  have dl := hres2.lt
  obtain ⟨va, vc, rfl, -, -⟩ := hown.form
  have h1 := (hown.set (a := ⟨w.heap.size, 0, none⟩) (by show w.heap.size < _; omega) (.slice va xs.length vc)).mono (B' := w.heap.size) (by omega)
  have h2 := hbel2.setCell (p := ⟨w.heap.size, 0, none⟩) (Nat.le_refl _) (.slice va xs.length vc)
  have HFIN := Lib.hid (And.intro h1 h2)
  clear h1 h2 hres2 hown hbel2 hd hres hbel hs
  go_wp2
  refine bodyPost_ret (v := .agg #[.slice va xs.length vc]) (by simp [results, Try.results9, go_sem, d0, df, dl]) rfl ?_
  exact ⟨_, xs, rfl, hl3, HFIN.out.1, HFIN.out.2⟩

end Go.Proofs.Ytkifhajkmgeafaa
