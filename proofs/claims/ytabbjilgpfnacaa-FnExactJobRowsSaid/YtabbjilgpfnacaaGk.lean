/- The rows of a job: a row of the program, and tiles. -/
import Derived.Test.YtabbjilgpfnacaaGd
namespace Go.Proofs.Ytabbjilgpfnacaa
section
open Go.RowKit Ieee
set_option maxRecDepth 100000
set_option linter.unusedVariables false
set_option linter.unusedSimpArgs false

/-- A list of floats and whether there is one. -/
def RwRes (ok : Bool) (L : List Nat) (w : World) (e : Ending) (w' : World) : Prop :=
  ∃ s c bs, e = .returned (.tuple #[.slice s (List.length bs) c, .bool ok]) ∧ OwnF w' w.heap.size (.slice s (List.length bs) c) bs ∧ bs.map fl = L ∧ Below w.heap.size w w'
theorem RwRes.no {w w' : World} (hb : Below w.heap.size w w') : RwRes false [] w (.returned (.tuple #[.slice none 0 0, .bool false])) w' :=
  ⟨Option.none, 0, [], rfl, OwnF.nil _ _, rfl, hb⟩
/-- A list of floats in a slot that a loop appends to. -/
structure AccS (w wr : World) (v : Value) (bs L : List Nat) : Prop where
  bel : Below w.heap.size w wr
  own : OwnF wr w.heap.size v bs
  con : bs.map fl = L
theorem AccS.start (w : World) (n : Nat) (hn : w.heap.size = n) : AccS w (w.alloc (.cells #[] 44)) (.slice (some ⟨n, 0, none⟩) 0 0) [] [] := by
  subst hn; exact ⟨alE w _, ownF_startW w (fun _ => 0), rfl⟩
theorem AccS.below {w wr w1 : World} {v : Value} {bs L : List Nat} (h : AccS w wr v bs L) (hb : Below wr.heap.size wr w1) : AccS w w1 v bs L :=
  ⟨h.bel.trans (hb.mono h.bel.size), h.own.below hb, h.con⟩
theorem AccS.app {w wr w1 w2 : World} {v : Value} {bs cs L M : List Nat} {gg cap : Nat} (h : AccS w wr v bs L) (hb : Below wr.heap.size wr w1)
    (hown : w2.ownsRow w.heap.size 44 1 (.slice (some ⟨gg, 0, none⟩) (bs.length + cs.length) cap) (bs.length + cs.length) (bs.map (Value.float .f32) ++ cs.map (Value.float .f32)))
    (hcs : ∀ b ∈ cs, b < 4294967296) (hM : cs.map fl = M) (hg : w1.grownBy w2 v.ownBlock) :
    AccS w w2 (.slice (some ⟨gg, 0, none⟩) (bs ++ cs).length cap) (bs ++ cs) (L ++ M) := by
  have s0 := h.bel.size
  have s1 := hb.size
  refine ⟨(h.bel.trans (hb.mono s0)).grown hg (by omega) (fun k hk => by have := (h.own.lt hk).1; omega), ⟨?_, fun b hb' => ?_⟩, by rw [List.map_append, h.con, hM]⟩
  · rw [List.length_append, List.map_append]; exact hown
  · rcases List.mem_append.1 hb' with h1 | h1
    · exact h.own.2 b h1
    · exact hcs b h1

/-- The word of a cell of a job's map. -/
def jw (L : List Nat) (wd dp : Nat) (solve : Bool) (o m i : Nat) : Nat := if solve then rowDW L wd dp o m i else wonE dp (gc L wd dp (i % wd) (i / wd))
def goodJ (L : List Nat) (wd dp : Nat) (solve : Bool) (y : Nat) : Bool := !solve || goodL L wd dp y
theorem wonE_fl {bs L : List Nat} (h : bs.map fl = L) (wd dp x y : Nat) : wonE dp (gc bs wd dp x y) = wonE dp (gc L wd dp x y) := by
  unfold wonE
  rw [wnr_fl (fun d => gc_fl h wd dp x y d)]

set_option maxHeartbeats 4000000 in
theorem jobRow_won (w : World) (vb wd hi dp qv Nv cv y : Nat) (j : JobX) (bs : List Nat) (hs : j.solve = false)
    (hV : VolAt w vb wd hi dp qv 0 Nv cv bs) (d2 : wd ≤ 24) (d4 : hi ≤ 24) (d5 : 1 ≤ dp) (d6 : dp ≤ 8) (hy : y < hi) :
    Calls Try.prog 54 #[.pointer (some ⟨vb, 0, none⟩), .agg j.v, .int .i64 y] w (RwRes true (tab wd fun x => wonE dp (gc bs wd dp x y)) w) := by
  obtain ⟨i0, hi0, hz0, hz1, hz2⟩ := info_parts info_f32
  obtain ⟨wA, hwA⟩ : ∃ wA, wA = w.alloc (.cells j.v 54) := ⟨_, rfl⟩
  obtain ⟨hbA, BJ, hsA⟩ := box_new hwA
  have hVA := hV.below hbA
  have KC := Lib.hid (fun W (hb : Below wA.heap.size wA W) x (hx : x < wd) => cell_any W vb wd hi dp qv 0 Nv cv bs x y x y rfl rfl hx hy d2 d4 d5 d6 (hVA.below hb))
  have KW := Lib.hid (fun W (hb : Below wA.heap.size wA W) x (hx : x < wd) => winner_any W qv (ic wd dp x y) dp dp (gc bs wd dp x y) (-1) (by omega) (by omega) (by omega) (fun i hi_ => by
    have h1 := (hVA.below hb).sl.at (ic wd dp x y + i) (by rw [hVA.len]; have := ic_le (dp := dp) hx hy; omega)
    rw [Nat.zero_add] at h1
    exact h1))
  have hst := AccS.start wA (w.heap.size + 1) hsA
  obtain ⟨c0, c1, c2, c3, -, -, -, -⟩ := (hVA.below (alE wA (.cells #[] 44))).box.four
  obtain ⟨j0, j1, j2, j3, j4, j5⟩ := six_of_box (BJ.below (alE wA (.cells #[] 44)))
  rw [hs] at j3
  rw [hwA] at j0 j1 j2 j3 j4 j5 c0 c1 c2 c3
  have HS := Lib.hid hst
  have HBA := Lib.hid hbA
  have HWA := Lib.hid hwA
  unfold JobX.v at HWA j0 j1 j2 j3 j4 j5 c0 c1 c2 c3 ⊢
  clear hV hwA hbA BJ hsA hVA hst hs
  go_enter Try.func54, Try.ntmps54
  go_wp2_with fail
  rw [← HWA.out]
  clear j0 j1 j2 j3 j4 j5 c0 c1 c2 c3
  go_loopw [8, 23] (fun v8 v23 wr => ∃ (x f cap : Nat) (cs : List Nat), v8 = .slice (some ⟨f, 0, none⟩) x cap ∧ v23 = .int .i64 x ∧ x ≤ wd ∧ AccS wA wr (.slice (some ⟨f, 0, none⟩) x cap) cs (tab x fun x => wonE dp (gc bs wd dp x y))) (fun _ v23 _ => wd - (intOf v23).toNat)
  case atStart => exact ⟨0, _, _, [], rfl, rfl, Nat.zero_le _, HS.out⟩
  case round =>
    clear HS
    obtain ⟨x, f, cap0, cs, rfl, rfl, hx, hacc⟩ := hrel
    have HACC := Lib.hid hacc
    have hcl : cs.length = x := by have := congrArg List.length hacc.con; rwa [List.length_map, tab_length] at this
    have hown := hacc.own.1
    rw [hcl] at hown
    have hbs := hacc.bel.size
    clear hacc
    by_cases hlt : x < wd
    · have hltI : (x : Int) < wd := by omega
      have KC1 := Lib.hid (KC.out wr HACC.out.bel x hlt)
      have KW1 := Lib.hid (fun n => KW.out (wr.drewN n) (HACC.out.bel.trans ((below_drewN (Below.refl _ _) n).mono HACC.out.bel.size)) x hlt)
      obtain ⟨z, hz⟩ : ∃ z, z = winW (gc bs wd dp x y) (-1) dp := ⟨_, rfl⟩
      rw [← hz] at KW1
      rw [Nat.zero_add] at KC1
      have hr32 := ofInt_lt z
      obtain ⟨r, hr⟩ : ∃ r, floatOfInt .f32 z = r := ⟨_, rfl⟩
      rw [hr] at hr32
      have HZ := Lib.hid (And.intro hz hr)
      clear hz
      go_wp2_with fail
      refine KC1.out.mono ?_
      rintro e w1 ⟨rfl, n1, rfl⟩
      go_wp2_with fail
      refine (KW1.out n1).mono ?_
      rintro e w1 ⟨rfl, n2, hw1⟩
      have hb1 : Below wr.heap.size wr w1 := by rw [hw1]; exact below_drewN (below_drewN (Below.refl _ _) n1) n2
      have hB1 := hb1.size
      have hown1 := World.ownsRow.kept hown (grown_below hb1 none) (by simp [Value.ownBlock])
      clear hw1
      go_wp2_with (at_builtin; refine wpList_append_lies _ (by rfl) _ _ _ (by rfl) wA.heap.size 44 i0 _ 1 4 Try.underlying22 hi0 hz0 hz1 hz2 rfl (by omega) (.slice (some ⟨f, 0, none⟩) x cap0) x _ (by rfl) (World.ownsRow.alloc hown1 _) ⟨w1.heap.size, 0, none⟩ 1 1 [.float .f32 r] (by rfl) (by rfl) (cell_one_new _ _ _) (by simp [Value.oneCell']) (by omega) (by unfold maxLen; omega) (by omega) (by simp; omega) (w1.heap.size + 1) (by simp) ?_; intro gg cap w2 hown2 hgrow hat hlt2)
      go_roundw
      case rel =>
        refine ⟨x + 1, gg, cap, cs ++ [r], by go_num, by go_num, by omega, ?_⟩
        rw [tab_succ]
        have h := HACC.out.app (w1 := w1.alloc (.cells #[.float .f32 r] 44)) (cs := [r]) (M := [wonE dp (gc bs wd dp x y)]) (hb1.trans ((alE w1 _).mono hB1)) (by simpa [hcl] using hown2) (by intro b hb; simp at hb; omega) (by unfold wonE iw; rw [← HZ.out.1, HZ.out.2]; rfl) hgrow
        simpa [hcl] using h
      case measure => simp [intOf]; omega
    · obtain rfl : wd = x := by omega
      go_wp2_with fail
      go_ret2
      exact ⟨some ⟨f, 0, none⟩, cap0, cs, by rw [hcl]; rfl, by rw [hcl]; exact HACC.out.own.mono HBA.out.size, HACC.out.con, HBA.out.trans (HACC.out.bel.mono HBA.out.size)⟩

/-- The words of a row that is solved. -/
def rowWs (L : List Nat) (wd dp y o m : Nat) : List Nat := tab wd fun x => iw (rowD (gc L wd dp · y ·) o m dp wd x : Nat)

set_option maxHeartbeats 4000000 in
theorem jobRow_solved (w : World) (vb wd hi dp qv Nv cv y : Nat) (j : JobX) (bs L : List Nat) (hL : bs.map fl = L) (hs : j.solve = true)
    (hV : VolAt w vb wd hi dp qv 0 Nv cv bs) (d1 : 1 ≤ wd) (d2 : wd ≤ 24) (d4 : hi ≤ 24) (d5 : 1 ≤ dp) (d6 : dp ≤ 8) (hy : y < hi) (hqv : qv < w.heap.size) (ho : le32 0 j.one = true) (hm : le32 0 j.more = true) :
    Calls Try.prog 54 #[.pointer (some ⟨vb, 0, none⟩), .agg j.v, .int .i64 y] w (RwRes (goodL L wd dp y) (if goodL L wd dp y then rowWs L wd dp y j.one j.more else []) w) := by
  obtain ⟨i0, hi0, hz0, hz1, hz2⟩ := info_parts info_f32
  obtain ⟨wA, hwA⟩ : ∃ wA, wA = w.alloc (.cells j.v 54) := ⟨_, rfl⟩
  obtain ⟨hbA, BJ, hsA⟩ := box_new hwA
  have hVA := hV.below hbA
  obtain ⟨wB, hwB⟩ : ∃ wB, wB = wA.alloc (.cells #[] 44) := ⟨_, rfl⟩
  have hbB : Below wA.heap.size wA wB := by rw [hwB]; exact alE wA _
  have KS := Lib.hid (iRowE wB vb wd hi dp qv Nv cv y j.one j.more bs L hL (hVA.below hbB) d1 d2 d4 d5 d6 hy (by have := hbA.size; have := hbB.size; omega) ho hm)
  have hst := AccS.start wA (w.heap.size + 1) hsA
  rw [← hwB] at hst
  obtain ⟨j0, j1, j2, j3, j4, j5⟩ := six_of_box (BJ.below hbB)
  rw [hs] at j3
  rw [hwB, hwA] at j0 j1 j2 j3 j4 j5
  have HS := Lib.hid hst
  have HBA := Lib.hid hbA
  have HWB := Lib.hid hwB
  obtain ⟨GL, hGL⟩ : ∃ GL, GL = goodL L wd dp y := ⟨_, rfl⟩
  obtain ⟨RL, hRL⟩ : ∃ RL, RL = if goodL L wd dp y then rowWs L wd dp y j.one j.more else [] := ⟨_, rfl⟩
  rw [← hRL]
  rw [← hGL] at KS hRL ⊢
  have HRL := Lib.hid hRL
  clear hGL hRL
  have HWA := Lib.hid hwA
  unfold JobX.v at HWA j0 j1 j2 j3 j4 j5 ⊢
  clear hV hwA hbA BJ hsA hVA hst hs hwB hbB hqv ho hm
  go_enter Try.func54, Try.ntmps54
  go_wp2_with fail
  rw [← HWA.out, ← HWB.out]
  clear j0 j1 j2 j3 j4 j5
  (with_reducible refine KS.out.mono ?_)
  rintro e w2 ⟨h | h, hb2⟩
  case inr =>
    obtain ⟨hg, rfl⟩ := h
    have HAC := Lib.hid (HS.out.below hb2)
    have HG := Lib.hid hg
    clear hb2 hg KS
    go_wp2_with fail
    go_loopw [8, 48] (fun v8 v48 wr => v8 = .slice (some ⟨w.heap.size + 1, 0, none⟩) 0 0 ∧ v48 = .int .i64 0 ∧ wr = w2) (fun _ _ _ => 0)
    case atStart => exact ⟨rfl, rfl, rfl⟩
    case round =>
      obtain ⟨rfl, rfl, rfl⟩ := hrel
      go_wp2_with fail
      go_ret2
      rw [HRL.out, HG.out]
      exact ⟨some ⟨w.heap.size + 1, 0, none⟩, 0, [], rfl, HAC.out.own.mono HBA.out.size, rfl, HBA.out.trans (HAC.out.bel.mono HBA.out.size)⟩
  obtain ⟨hg, g, c, fw, rfl, hrow⟩ := h
  have hcell : ∀ x, x < wd → w2.cell? ⟨g, x, none⟩ = some (.int .i64 (rowD (gc L wd dp · y ·) j.one j.more dp wd x : Nat)) := fun x hx => by
    have := hrow.cellAt x (by unfold rowL; rw [tabZ_len]; exact hx)
    unfold rowL at this
    rw [tabZ_getD hx] at this
    exact this
  have hgl := hrow.lt (k := g) rfl
  have HAC := Lib.hid (HS.out.below hb2)
  have HG := Lib.hid hg
  have HG2 := Lib.hid (show g < w2.heap.size ∧ w.heap.size + 1 < g from ⟨hgl.2, by have := HS.out.own.lt (k := w.heap.size + 1) rfl; omega⟩)
  have HC := Lib.hid hcell
  clear hrow hcell hgl hb2 hg KS HS
  go_wp2_with fail
  go_loopw [8, 48] (fun v8 v48 wr => ∃ (x f cap : Nat) (cs : List Nat), v8 = .slice (some ⟨f, 0, none⟩) x cap ∧ v48 = .int .i64 x ∧ x ≤ wd ∧ AccS wA wr (.slice (some ⟨f, 0, none⟩) x cap) cs (tab x fun x => iw (rowD (gc L wd dp · y ·) j.one j.more dp wd x : Nat)) ∧ g < wr.heap.size ∧ f ≠ g ∧ (∀ x, x < wd → wr.cell? ⟨g, x, none⟩ = some (.int .i64 (rowD (gc L wd dp · y ·) j.one j.more dp wd x : Nat)))) (fun _ v48 _ => wd - (intOf v48).toNat)
  case atStart => exact ⟨0, _, _, [], rfl, rfl, Nat.zero_le _, HAC.out, HG2.out.1, by have := HG2.out.2; omega, HC.out⟩
  case round =>
    clear HAC HC HG2
    obtain ⟨x, f, cap0, cs, rfl, rfl, hx, hacc, hgl, hgv, hcell⟩ := hrel
    have HACC := Lib.hid hacc
    have HGV := Lib.hid hgv
    have HC := Lib.hid hcell
    have hcl : cs.length = x := by have := congrArg List.length hacc.con; rwa [List.length_map, tab_length] at this
    have hown := hacc.own.1
    rw [hcl] at hown
    have hbs := hacc.bel.size
    clear hacc hgv hcell
    by_cases hlt : x < wd
    · have hltI : (x : Int) < wd := by omega
      have cx := HC.out x hlt
      have hrd := rowD_lt (C := (gc L wd dp · y ·)) (o := j.one) (m := j.more) (wd := wd) d5 x
      obtain ⟨t, ht⟩ : ∃ t, t = rowD (gc L wd dp · y ·) j.one j.more dp wd x := ⟨_, rfl⟩
      rw [← ht] at cx hrd
      have hr32 := ofInt_lt (t : Int)
      obtain ⟨r, hr⟩ : ∃ r, floatOfInt .f32 (t : Int) = r := ⟨_, rfl⟩
      rw [hr] at hr32
      have HZ := Lib.hid (And.intro ht hr)
      clear ht
      go_wp2_with (at_builtin; refine wpList_append_lies _ (by rfl) _ _ _ (by rfl) wA.heap.size 44 i0 _ 1 4 Try.underlying22 hi0 hz0 hz1 hz2 rfl (by omega) (.slice (some ⟨f, 0, none⟩) x cap0) x _ (by rfl) (World.ownsRow.alloc hown _) ⟨wr.heap.size, 0, none⟩ 1 1 [.float .f32 r] (by rfl) (by rfl) (cell_one_new _ _ _) (by simp [Value.oneCell']) (by omega) (by unfold maxLen; omega) (by omega) (by simp; omega) (wr.heap.size + 1) (by simp) ?_; intro gg cap w2 hown2 hgrow hat hlt2)
      go_roundw
      case rel =>
        refine ⟨x + 1, gg, cap, cs ++ [r], by go_num, by go_num, by omega, ?_⟩
        rw [tab_succ]
        have hA := alE wr (.cells #[.float .f32 r] 44)
        have h := HACC.out.app (w1 := wr.alloc (.cells #[.float .f32 r] 44)) (cs := [r]) (M := [iw (rowD (gc L wd dp · y ·) j.one j.more dp wd x : Nat)]) hA (by simpa [hcl] using hown2) (by intro b hb; simp at hb; omega) (by unfold iw; rw [← HZ.out.1, HZ.out.2]; rfl) hgrow
        have hkey : w2.heap[g]? = (wr.alloc (.cells #[.float .f32 r] 44)).heap[g]? := hgrow.block g (by simp; omega) (by simp [Value.ownBlock]; exact fun e => HGV.out e.symm)
        refine ⟨by simpa [hcl] using h, Nat.lt_of_lt_of_le hgl (Nat.le_trans hA.size hgrow.size), ?_, fun i hi_ => ?_⟩
        · rcases hat with h1 | h1
          · simp [Value.ownBlock] at h1
            have := HGV.out
            omega
          · omega
        · exact (World.cell?_of_block hkey).trans ((hA.cell (p := ⟨g, i, none⟩) hgl).trans (HC.out i hi_))
      case measure => simp [intOf]; omega
    · obtain rfl : wd = x := by omega
      go_wp2_with fail
      go_ret2
      rw [HRL.out, HG.out]
      exact ⟨some ⟨f, 0, none⟩, cap0, cs, by rw [hcl]; rfl, by rw [hcl]; exact HACC.out.own.mono HBA.out.size, HACC.out.con, HBA.out.trans (HACC.out.bel.mono HBA.out.size)⟩

/-- A row of a job. -/
theorem jobRowE (w : World) (vb wd hi dp qv Nv cv y : Nat) (j : JobX) (bs L : List Nat) (hL : bs.map fl = L)
    (hV : VolAt w vb wd hi dp qv 0 Nv cv bs) (d1 : 1 ≤ wd) (d2 : wd ≤ 24) (d4 : hi ≤ 24) (d5 : 1 ≤ dp) (d6 : dp ≤ 8) (hy : y < hi) (hqv : qv < w.heap.size) (ho : le32 0 j.one = true) (hm : le32 0 j.more = true) :
    Calls Try.prog 54 #[.pointer (some ⟨vb, 0, none⟩), .agg j.v, .int .i64 y] w (RwRes (goodJ L wd dp j.solve y) (if goodJ L wd dp j.solve y then tab wd (fun x => jw L wd dp j.solve j.one j.more (y * wd + x)) else []) w) := by
  cases hs : j.solve
  · have e : (tab wd fun x => wonE dp (gc bs wd dp x y)) = tab wd fun x => jw L wd dp false j.one j.more (y * wd + x) := by
      unfold tab
      refine List.map_congr_left fun x hx => ?_
      have hx := List.mem_range.1 hx
      unfold jw
      have e1 : (y * wd + x) / wd = y := by rw [Nat.mul_comm, Nat.mul_add_div (by omega), Nat.div_eq_of_lt hx, Nat.add_zero]
      have e2 : (y * wd + x) % wd = x := by rw [Nat.mul_comm, Nat.mul_add_mod, Nat.mod_eq_of_lt hx]
      rw [e1, e2, wonE_fl hL, if_neg (by simp)]
    have h := jobRow_won w vb wd hi dp qv Nv cv y j bs hs hV d2 d4 d5 d6 hy
    rw [e] at h
    have g : goodJ L wd dp false y = true := by unfold goodJ; rw [Bool.not_false, Bool.true_or]
    rw [g, if_pos rfl]
    exact h
  · have e : rowWs L wd dp y j.one j.more = tab wd fun x => jw L wd dp true j.one j.more (y * wd + x) := by
      unfold rowWs tab
      refine List.map_congr_left fun x hx => ?_
      have hx := List.mem_range.1 hx
      unfold jw
      rw [if_pos rfl, rowDW_at hx]
    have h := jobRow_solved w vb wd hi dp qv Nv cv y j bs L hL hs hV d1 d2 d4 d5 d6 hy hqv ho hm
    rw [e] at h
    have g : goodJ L wd dp true y = goodL L wd dp y := by unfold goodJ; rw [Bool.not_true, Bool.false_or]
    rw [g]
    exact h
end

section
open Go.RowKit Ieee
set_option maxRecDepth 100000
set_option linter.unusedVariables false
set_option linter.unusedSimpArgs false

def tileOk (hi f n : Int) : Bool := decide (0 ≤ f) && (decide (1 ≤ n) && (decide (n ≤ hi) && decide (f ≤ hi - n)))
theorem tileOk_spec {hi : Nat} {f n : Int} (h : tileOk hi f n = true) : ∃ F M : Nat, f = F ∧ n = M ∧ 1 ≤ M ∧ F + M ≤ hi := by
  unfold tileOk at h
  simp only [Bool.and_eq_true, decide_eq_true_eq] at h
  exact ⟨f.toNat, n.toNat, by omega, by omega, by omega, by omega⟩
/-- Whether a job has rows of a tile, and these. -/
def jrOk (j : JobX) (p q : Tri) (f n : Int) (xs ys : List Nat) : Bool :=
  (j.ok && pairV p q && tileOk p.b f n) && (List.range n.toNat).all fun i => goodJ (jobT j p q xs ys).L p.a.toNat j.deep.toNat j.solve (f.toNat + i)
def jrL (j : JobX) (p q : Tri) (f n : Int) (xs ys : List Nat) : List Nat :=
  if jrOk j p q f n xs ys then tab (n.toNat * p.a.toNat) (fun i => jw (jobT j p q xs ys).L p.a.toNat j.deep.toNat j.solve j.one j.more (f.toNat * p.a.toNat + i)) else []
theorem tab_add (n m : Nat) (f : Nat → Nat) : tab (n + m) f = tab n f ++ tab m fun i => f (n + i) := by
  unfold tab
  rw [List.range_add, List.map_append, List.map_map]
  rfl
theorem all_range_succ (k : Nat) (f : Nat → Bool) : (List.range (k + 1)).all f = ((List.range k).all f && f k) := by
  rw [List.range_succ, List.all_append]; simp

set_option maxHeartbeats 1000000 in
theorem isTileE (w : World) (p : Tri) (f n : Int) (hl : p.l ≤ 9223372036854775807) (hp : p.ok = true) :
    Calls Try.prog 53 #[.agg #[.int .i64 p.a, .int .i64 p.b, .slice p.s p.l p.c], .agg #[.int .i64 f, .int .i64 n]] w fun e w' => e = .returned (.bool (tileOk p.b f n)) ∧ Below w.heap.size w w' := by
  obtain ⟨W0, hW0⟩ : ∃ W, W = (w.alloc (.cells #[.int .i64 p.a, .int .i64 p.b, .slice p.s p.l p.c] 34)).alloc (.cells #[.int .i64 f, .int .i64 n] 63) := ⟨_, rfl⟩
  have hb0 : Below w.heap.size w W0 := by rw [hW0]; exact below_two w _ _
  have B1 : BoxN W0 w.heap.size #[.int .i64 p.a, .int .i64 p.b, .slice p.s p.l p.c] 34 := by rw [hW0]; exact BoxN.first _ _ _ _
  have B2 : BoxN W0 (w.heap.size + 1) #[.int .i64 f, .int .i64 n] 63 := by rw [hW0]; exact BoxN.second _ _ _ _
  have KV := Lib.hid (validPicture_any p.a p.b p.s p.l p.c hl W0)
  unfold Tri.ok at hp
  obtain ⟨wd, hi, g1, g2, g3, g4, g5, g6, g7, g8⟩ := vPic_spec hp
  rw [hp] at KV
  have HB := Lib.hid (And.intro hb0 (And.intro B1 B2))
  have HW0 := Lib.hid hW0
  have a0 := B1.cell 0
  have a1 := B1.cell 1
  have a2 := B1.cell 2
  simp only [List.size_toArray, List.length_cons, List.length_nil, List.getElem?_toArray, List.getElem?_cons_zero, List.getElem?_cons_succ] at a0 a1 a2
  rw [hW0] at a0 a1 a2
  have hpb : 1 ≤ p.b ∧ p.b ≤ 24 := by omega
  have HPB := Lib.hid hpb
  clear hp hb0 B1 B2 hW0 g1 g2 g3 g4 g5 g6 g7 g8 hpb
  go_enter Try.func53, Try.ntmps53
  go_wp2_with fail
  rw [← HW0.out]
  refine KV.out.mono ?_
  rintro e w1 ⟨rfl, hb1⟩
  have C1 := HB.out.2.1.below hb1
  have C2 := HB.out.2.2.below hb1
  have a1 := C1.cell 1
  have d0 := C2.cell 0
  have d1 := C2.cell 1
  simp only [List.size_toArray, List.length_cons, List.length_nil, List.getElem?_toArray, List.getElem?_cons_zero, List.getElem?_cons_succ] at a1 d0 d1
  have HF := Lib.hid (HB.out.1.trans (hb1.mono HB.out.1.size))
  clear hb1 C1 C2 KV
  have hpb := HPB.out
  cases h1 : decide ((0 : Int) ≤ f)
  · go_wp2_with fail
    go_ret
    exact ⟨by unfold tileOk; rw [h1]; rfl, HF.out⟩
  cases h2 : decide ((1 : Int) ≤ n)
  · go_wp2_with fail
    go_ret
    exact ⟨by unfold tileOk; rw [h1, h2]; rfl, HF.out⟩
  cases h3 : decide (n ≤ p.b)
  · go_wp2_with fail
    go_ret
    exact ⟨by unfold tileOk; rw [h1, h2, h3]; rfl, HF.out⟩
  have hw : IntKind.i64.wrap (p.b - n) = p.b - n := IntWalk.i64_in _ (by simp only [decide_eq_true_eq] at h2 h3; omega)
  obtain ⟨b4, h4⟩ : ∃ b4, decide (f ≤ p.b - n) = b4 := ⟨_, rfl⟩
  clear HPB hpb
  go_wp2_with fail
  go_ret
  exact ⟨by unfold tileOk; rw [h1, h2, h3, h4]; rfl, HF.out⟩

set_option maxHeartbeats 1000000 in
theorem l07TileE (W : World) (hi tb : Nat) (f n : Int) (B : BoxN W tb #[.int .i64 f, .int .i64 n] 63) (h1 : 1 ≤ hi) (h2 : hi ≤ 24) :
    Calls Try.prog 50 #[.int .i64 hi, .pointer (some ⟨tb, 0, none⟩)] W fun e w' => e = .returned (.bool (tileOk hi f n)) ∧ ∃ k, w' = W.drewN k := by
  have d0 := B.cell 0
  have d1 := B.cell 1
  simp only [List.size_toArray, List.length_cons, List.length_nil, List.getElem?_toArray, List.getElem?_cons_zero, List.getElem?_cons_succ] at d0 d1
  have htl := B.lt
  have K := Lib.hid (fun w => s00In_any f 0 ((hi : Int) - 1) w)
  have e1 : IntKind.i64.wrap ((hi : Int) - 1) = (hi : Int) - 1 := IntWalk.i64_in _ (by omega)
  have HI := Lib.hid (And.intro h1 h2)
  clear B h1 h2
  cases hg : decide ((0 : Int) ≤ f) && decide (f ≤ (hi : Int) - 1)
  · have e : tileOk hi f n = false := by
      have h := HI.out
      cases ht : tileOk (hi : Int) f n
      · rfl
      · obtain ⟨F, M, rfl, rfl, q1, q2⟩ := tileOk_spec ht
        simp at hg
        omega
    rw [e]
    rw [hg] at K
    clear e hg HI
    go_enter Try.func50, Try.ntmps50
    go_wp2_with fail
    go_quiet (first | exact quiet_same (K.out _))
    go_wp2_with fail
    go_ret
    exact ⟨rfl, _, rfl⟩
  · have K2 := Lib.hid (fun w => s00In_any n 1 ((hi : Int) - f) w)
    have hg2 := hg
    simp only [Bool.and_eq_true, decide_eq_true_eq] at hg2
    have h := HI.out
    have e2 : IntKind.i64.wrap ((hi : Int) - f) = (hi : Int) - f := IntWalk.i64_in _ (by omega)
    have e : tileOk hi f n = (decide ((1 : Int) ≤ n) && decide (n ≤ (hi : Int) - f)) := by
      unfold tileOk
      rw [Bool.eq_iff_iff]
      simp only [Bool.and_eq_true, decide_eq_true_eq]
      omega
    rw [e]
    rw [hg] at K
    obtain ⟨bb, hbb⟩ : ∃ bb, (decide ((1 : Int) ≤ n) && decide (n ≤ (hi : Int) - f)) = bb := ⟨_, rfl⟩
    rw [hbb] at K2 ⊢
    obtain ⟨z1, hz1⟩ : ∃ z1, (hi : Int) - 1 = z1 := ⟨_, rfl⟩
    obtain ⟨z2, hz2⟩ : ∃ z2, (hi : Int) - f = z2 := ⟨_, rfl⟩
    have e1' : IntKind.i64.wrap ((hi : Int) - 1) = z1 := by rw [e1, hz1]
    have e2' : IntKind.i64.wrap ((hi : Int) - f) = z2 := by rw [e2, hz2]
    rw [hz1] at K
    rw [hz2] at K2
    clear e1 e2
    clear e hg HI hg2 hbb h
    clear hz1 hz2
    go_enter Try.func50, Try.ntmps50
    go_wp2_with fail
    go_quiet (first | (with_reducible exact quiet_same (K.out _)) | (with_reducible exact quiet_same (K2.out _)))
    go_wp2_with fail
    go_ret
    exact ⟨rfl, _, rfl⟩
end

section
open Go.RowKit Ieee
set_option maxRecDepth 100000
set_option linter.unusedVariables false
set_option linter.unusedSimpArgs false

theorem jr_no {j : JobX} {p q : Tri} {f n : Int} {xs ys : List Nat} (h : jrOk j p q f n xs ys = false) : jrL j p q f n xs ys = [] := by
  unfold jrL; rw [h]; rfl
theorem picAt {W V : World} {b : Nat} {x y z : Value} {T : TypeId} (h : BoxN W b #[x, y, z] T) (hb : Below W.heap.size W V) : V.cell? ⟨b, 0, none⟩ = some x ∧ V.cell? ⟨b, 1, none⟩ = some y ∧ V.cell? ⟨b, 2, none⟩ = some z :=
  ⟨(h.below hb).cell 0, (h.below hb).cell 1, (h.below hb).cell 2⟩
theorem prOk_le {o m : Nat} (h : prOk o m = true) : le32 0 o = true ∧ le32 0 m = true := prOk_parts h

set_option maxHeartbeats 4000000 in
theorem iJobRows_any (w : World) (p q : Tri) (j : JobX) (f n : Int) (xs ys : List Nat) (hp : SlF w (.slice p.s p.l p.c) xs) (hq : SlF w (.slice q.s q.l q.c) ys) (ho : j.one < 4294967296) (hm : j.more < 4294967296) :
    Calls Try.prog 25 #[.agg #[.int .i64 p.a, .int .i64 p.b, .slice p.s p.l p.c], .agg #[.int .i64 q.a, .int .i64 q.b, .slice q.s q.l q.c], .agg j.v, .agg #[.int .i64 f, .int .i64 n]] w (RwRes (jrOk j p q f n xs ys) (jrL j p q f n xs ys) w) := by
  obtain ⟨i0, hi0, hz0, hz1, hz2⟩ := info_parts info_f32
  obtain ⟨W0, hW0⟩ : ∃ W, W = (((w.alloc (.cells #[.int .i64 p.a, .int .i64 p.b, .slice p.s p.l p.c] 34)).alloc (.cells #[.int .i64 q.a, .int .i64 q.b, .slice q.s q.l q.c] 34)).alloc (.cells j.v 54)).alloc (.cells #[.int .i64 f, .int .i64 n] 63) := ⟨_, rfl⟩
  obtain ⟨hb0, B1, B2, BJ, BZ⟩ := fourE hW0
  have KV := Lib.hid (iJobVolume_any W0 p q j xs ys (hp.below hb0) (hq.below hb0) ho hm)
  have KT := Lib.hid (fun W (h : p.ok = true) => isTileE W p f n hp.leE.2 h)
  have HAJ := Lib.hid (fun V (hb : Below W0.heap.size W0 V) => six_of_box (BJ.below hb))
  have HAP := Lib.hid (fun V (hb : Below W0.heap.size W0 V) => picAt (show BoxN W0 w.heap.size #[.int .i64 p.a, .int .i64 p.b, .slice p.s p.l p.c] 34 from B1) hb)
  have HAZ := Lib.hid (fun V (hb : Below W0.heap.size W0 V) => (show V.cell? ⟨w.heap.size + 1 + 1 + 1, 0, none⟩ = some (.int .i64 f) ∧ V.cell? ⟨w.heap.size + 1 + 1 + 1, 1, none⟩ = some (.int .i64 n) from ⟨(BZ.below hb).cell 0, (BZ.below hb).cell 1⟩))
  have HB := Lib.hid hb0
  have HW0 := Lib.hid hW0
  have hp1 : w.heap.size + 1 + 1 + 1 < W0.heap.size := BZ.lt
  obtain ⟨a0, a1, a2, -, -, -⟩ := B1.cells
  obtain ⟨b0, b1, b2, -, -, -⟩ := B2.cells
  obtain ⟨c0, c1, c2, c3, c4, c5⟩ := six_of_box BJ
  rw [hW0] at a0 a1 a2 b0 b1 b2 c0 c1 c2 c3 c4 c5
  obtain ⟨rk, hrk⟩ : ∃ rk, rk = jrOk j p q f n xs ys := ⟨_, rfl⟩
  obtain ⟨rl, hrl⟩ : ∃ rl, rl = jrL j p q f n xs ys := ⟨_, rfl⟩
  rw [← hrk, ← hrl]
  have HRR := Lib.hid (And.intro hrk hrl)
  obtain ⟨t, ht⟩ : ∃ t, t = jobT j p q xs ys := ⟨_, rfl⟩
  rw [← ht] at KV
  have HTT := Lib.hid ht
  unfold JobX.v at HW0 KV ⊢
  clear hp hq hb0 B1 B2 BJ BZ hW0 ho hm hrk hrl ht
  go_enter Try.func25, Try.ntmps25
  go_wp2_with fail
  rw [← HW0.out]
  refine KV.out.mono ?_
  rintro e w2 ⟨s, c, bs, rfl, ho, hc, hb⟩
  clear a0 a1 a2 b0 b1 b2 c0 c1 c2 c3 c4 c5 KV
  cases hg : j.ok && pairV p q
  · have hr2 : rk = false ∧ rl = [] := by
      have h : jrOk j p q f n xs ys = false := by unfold jrOk; rw [hg]; simp
      rw [HRR.out.1, HRR.out.2, h]
      exact ⟨rfl, jr_no h⟩
    have ht2 : t = noVol := by rw [HTT.out]; unfold jobT; rw [hg]; simp
    have HRN := Lib.hid hr2
    subst ht2
    obtain ⟨w3, hw3⟩ : ∃ w3, w3 = w2.alloc (.cells #[.int .i64 noVol.a, .int .i64 noVol.b, .int .i64 noVol.d, .slice s bs.length c] 31) := ⟨_, rfl⟩
    obtain ⟨hb3, BV, hs3⟩ := box_new hw3
    have HF := Lib.hid (HB.out.trans ((hb.trans (hb3.mono hb.size)).mono HB.out.size))
    rw [hw3] at HF
    have hok : noVol.ok = false := rfl
    rw [hok]
    clear ho hc hb hb3 BV hs3 hw3 hg hr2
    generalize noVol.a = na at *
    generalize noVol.b = nb at *
    generalize noVol.d = nd at *
    go_wp2_with fail
    go_ret2
    rw [HRN.out.1, HRN.out.2]
    exact RwRes.no HF.out
  · have hgg := hg
    rw [Bool.and_eq_true] at hgg
    obtain ⟨hj, hv⟩ := hgg
    obtain ⟨wd, hi, k, t1, t2, t3, t4, t5, hvv, e1, e2, e3, hpr⟩ := job_right xs ys hj hv
    have hpk : p.ok = true := by unfold pairV at hv; simp only [Bool.and_eq_true] at hv; exact hv.1.1.1
    rw [← HTT.out] at t1 t2 t3 t4 t5
    have hbl : bs.length = wd * hi * k := by have := congrArg List.length hc; rw [List.length_map] at this; rw [this, t5]
    obtain ⟨hN, d1, d2, d3, d4, d5, d6, d7, d8⟩ := vVol_picE hvv
    have hpos : 0 < wd * hi * k := Nat.mul_pos (Nat.mul_pos d1 d3) d6
    obtain ⟨g, rfl⟩ := own_ptrE ho (by omega)
    rw [t1, t2, t3, t4]
    rw [hbl] at ho ⊢
    obtain ⟨N, hNN⟩ : ∃ N, N = wd * hi * k := ⟨_, rfl⟩
    rw [← hNN] at ho ⊢
    have hgl := (ho.lt (k := g) rfl).2
    obtain ⟨w3, hw3⟩ : ∃ w3, w3 = w2.alloc (.cells #[.int .i64 wd, .int .i64 hi, .int .i64 k, .slice (some ⟨g, 0, none⟩) N c] 31) := ⟨_, rfl⟩
    obtain ⟨hb3, BV, hs3⟩ := box_new hw3
    have hb03 : Below W0.heap.size W0 w3 := hb.trans (hb3.mono hb.size)
    have hV3 : VolAt w3 w2.heap.size wd hi k g 0 N c bs := ⟨BV, ho.sl.below hb3, by omega⟩
    have KT3 := Lib.hid (KT.out w3 hpk)
    have HBB := Lib.hid e2
    obtain ⟨j0, j1, j2, j3, j4, j5⟩ := HAJ.out w3 hb03
    obtain ⟨a0, a1, a2⟩ := HAP.out w3 hb03
    obtain ⟨z0, z1⟩ := HAZ.out w3 hb03
    have H3 := Lib.hid (And.intro hb03 hV3)
    have HW3 := Lib.hid hw3
    have HPR := Lib.hid (prOk_parts hpr)
    have hbox3 : w2.heap.size < w3.heap.size := BV.lt
    have hg3 : g < w3.heap.size := by omega
    have hrk2 : rk = (tileOk p.b f n && (List.range n.toNat).all fun i => goodJ t.L wd k j.solve (f.toNat + i)) := by
      rw [HRR.out.1]; unfold jrOk; rw [hg, ← HTT.out, e1, e3]; simp
    have hrl2 : rl = if rk then tab (n.toNat * wd) (fun i => jw t.L wd k j.solve j.one j.more (f.toNat * wd + i)) else [] := by
      rw [HRR.out.2, HRR.out.1]; unfold jrL; rw [← HTT.out, e1, e3]; simp
    have HRK := Lib.hid (And.intro hrk2 hrl2)
    have HC := Lib.hid hc
    rw [hw3] at j0 j1 j2 j3 j4 j5 a0 a1 a2 z0 z1
    clear hNN ho hc hb hbl hpos hb3 BV hb03 hV3 hw3 hpk hpr hgl hs3 t1 t2 t3 t4 t5 hvv hj hv HRR hrk2 hrl2 hg e1 e2 e3
    go_wp2_with fail
    rw [← HW3.out]
    (with_reducible refine KT3.out.mono ?_)
    rintro e w4 ⟨rfl, hb4⟩
    have H4 := Lib.hid (And.intro (H3.out.1.trans (hb4.mono H3.out.1.size)) (H3.out.2.below hb4))
    have hb34 := hb4.size
    clear j0 j1 j2 j3 j4 j5 a0 a1 a2 z0 z1 hb4 KT3
    cases ht : tileOk p.b f n
    · have hr : rk = false ∧ rl = [] := by rw [HRK.out.2, HRK.out.1, ht]; simp
      have HR := Lib.hid hr
      clear ht hr
      go_wp2_with fail
      go_ret2
      rw [HR.out.1, HR.out.2]
      exact RwRes.no (HB.out.trans (H4.out.1.mono HB.out.size))
    · have ht2 := ht
      rw [HBB.out] at ht2
      obtain ⟨F, M, rfl, rfl, m1, m2⟩ := tileOk_spec ht2
      rw [ht, Bool.true_and, Int.toNat_natCast, Int.toNat_natCast] at HRK
      clear ht ht2
      have hbA := alE w4 (.cells #[] 44)
      obtain ⟨z0, z1⟩ := HAZ.out _ (H4.out.1.trans (hbA.mono H4.out.1.size))
      have st := AccS.start w4 w4.heap.size rfl
      have ST := Lib.hid st
      clear st hbA
      go_wp2_with fail
      clear z0 z1
      have hFM : ((F : Int) + (M : Int)) = ((F + M : Nat) : Int) := by simp
      have hw1 : IntKind.i64.wrap ((F : Int) + (M : Int)) = ((F + M : Nat) : Int) := by rw [hFM]; exact IntWalk.i64_in _ (by omega)
      obtain ⟨FM, hfm⟩ : ∃ FM, FM = F + M := ⟨_, rfl⟩
      rw [← hfm] at hw1 m2
      clear hFM
      go_loopw [12, 13] (fun v12 v13 wr => ∃ (y f0 cap m : Nat) (cs : List Nat), v12 = .slice (some ⟨f0, 0, none⟩) m cap ∧ v13 = .int .i64 y ∧ F ≤ y ∧ y ≤ FM ∧ m = (y - F) * wd ∧ AccS w4 wr (.slice (some ⟨f0, 0, none⟩) m cap) cs (tab m fun i => jw t.L wd k j.solve j.one j.more (F * wd + i)) ∧ ((List.range (y - F)).all fun i => goodJ t.L wd k j.solve (F + i)) = true) (fun _ v13 _ => FM - (intOf v13).toNat)
      case atStart => exact ⟨F, _, _, 0, [], rfl, rfl, Nat.le_refl _, by omega, by simp, ST.out, by simp⟩
      case round =>
        clear ST
        obtain ⟨y, f0, cap0, m, cs, rfl, rfl, y1, y2, hmy, hacc, hgood⟩ := hrel
        have HACC := Lib.hid hacc
        have HGOOD := Lib.hid hgood
        have HMY := Lib.hid hmy
        have hcl : cs.length = m := by have := congrArg List.length hacc.con; rwa [List.length_map, tab_length] at this
        have hown := hacc.own.1
        rw [hcl] at hown
        have hbs := hacc.bel.size
        have hbr := H4.out.1.trans (hacc.bel.mono H4.out.1.size)
        obtain ⟨z0, z1⟩ := HAZ.out _ hbr
        have hml : m ≤ 24 * 24 := by rw [hmy]; exact Nat.mul_le_mul (by omega) d2
        clear hacc hgood hmy
        by_cases hlt : y < FM
        · have hltI : (y : Int) < FM := by omega
          obtain ⟨GJ, hGJ⟩ : ∃ GJ, GJ = goodJ t.L wd k j.solve y := ⟨_, rfl⟩
          obtain ⟨RL, hRL⟩ : ∃ RL, RL = if GJ then tab wd (fun x => jw t.L wd k j.solve j.one j.more (y * wd + x)) else [] := ⟨_, rfl⟩
          have KJ := jobRowE wr w2.heap.size wd hi k g N c y j bs t.L HC.out (H4.out.2.below HACC.out.bel) d1 d2 d4 d6 d7 (by omega) (by have := HACC.out.bel.size; omega) HPR.out.1 HPR.out.2
          rw [← hGJ, ← hRL] at KJ
          unfold JobX.v at KJ
          have KJ := Lib.hid KJ
          obtain ⟨j0, j1, j2, j3, j4, j5⟩ := HAJ.out _ hbr
          have HGJ := Lib.hid (And.intro hGJ hRL)
          clear hGJ hRL hbr
          go_wp2_with fail
          clear j0 j1 j2 j3 j4 j5 z0 z1
          (with_reducible refine KJ.out.mono ?_)
          rintro e w6 ⟨s, c6, rs, rfl, hor, hcr, hb6⟩
          have HB6 := Lib.hid hb6
          have hs6 := hb6.size
          cases hgj : GJ
          · rw [hgj] at HGJ
            have hr : rk = false ∧ rl = [] := by
              have h : ((List.range M).all fun i => goodJ t.L wd k j.solve (F + i)) = false := by
                rw [List.all_eq_false]
                refine ⟨y - F, List.mem_range.2 (by omega), ?_⟩
                rw [show F + (y - F) = y by omega, ← HGJ.out.1]; simp
              rw [HRK.out.2, HRK.out.1, h]; simp
            have HR := Lib.hid hr
            clear hr hor hcr hb6 KJ
            go_wp2_with fail
            go_ret2
            rw [HR.out.1, HR.out.2]
            exact RwRes.no (HB.out.trans ((H4.out.1.trans ((HACC.out.bel.trans (HB6.out.mono hbs)).mono H4.out.1.size)).mono HB.out.size))
          · rw [hgj, if_pos rfl] at HGJ
            rw [HGJ.out.2] at hcr
            have hrl : rs.length = wd := by have := congrArg List.length hcr; rwa [List.length_map, tab_length] at this
            obtain ⟨g6, rfl⟩ := own_ptrE hor (by omega)
            have hnews := hor.sl
            have hown6 := World.ownsRow.kept hown (grown_below hb6 none) (by simp [Value.ownBlock])
            have HCR := Lib.hid (And.intro hcr hor.2)
            have hn6 : ∀ i u, (rs.map (Value.float .f32))[i]? = some u → w6.cell? ((⟨g6, 0, none⟩ : Addr).add i) = some u := fun i u hu => by
              have h1 := (List.getElem?_eq_some_iff.1 hu).1
              rw [List.length_map] at h1
              rw [show (⟨g6, 0, none⟩ : Addr).add i = ⟨g6, i, none⟩ by simp only [Addr.add, Nat.zero_add]; split <;> simp_all]
              exact (World.ownsRow.cellAt hor.1 i (by omega)).trans hu
            rw [hrl]
            clear hor hcr hb6 KJ hnews
            go_wp2_with (at_builtin; refine wpList_append_lies _ (by rfl) _ _ _ (by rfl) w4.heap.size 44 i0 _ 1 4 Try.underlying22 hi0 hz0 hz1 hz2 rfl (by omega) (.slice (some ⟨f0, 0, none⟩) m cap0) m _ (by rfl) hown6 ⟨g6, 0, none⟩ wd c6 (rs.map (Value.float .f32)) (by rfl) (by simp [hrl]) hn6 (by simp [Value.oneCell']) (by omega) (by unfold maxLen; omega) (by omega) (by omega) (w6.heap.size) (by rfl) ?_; intro gg cap w7 hown2 hgrow hat hlt2)
            go_roundw
            case rel =>
              have e1 : y + 1 - F = y - F + 1 := by omega
              refine ⟨y + 1, gg, cap, m + wd, cs ++ rs, rfl, by go_num, by omega, by omega, by rw [HMY.out, e1, Nat.add_mul, Nat.one_mul], ?_, ?_⟩
              · have e2 : F * wd + m = y * wd := by rw [HMY.out, ← Nat.add_mul]; congr 1; omega
                have h := HACC.out.app (w1 := w6) (cs := rs) (M := tab wd (fun x => jw t.L wd k j.solve j.one j.more (y * wd + x))) HB6.out (by simpa [hcl, hrl] using hown2) HCR.out.2 HCR.out.1 hgrow
                rw [tab_add]
                simp only [← Nat.add_assoc, e2]
                simpa [hcl, hrl] using h
              · rw [e1, all_range_succ, HGOOD.out, show F + (y - F) = y by omega, ← HGJ.out.1]; rfl
            case measure => simp [intOf]; omega
        · obtain rfl : FM = y := by omega
          have hMM : FM - F = M := by omega
          go_wp2_with fail
          go_ret2
          have hg := HGOOD.out
          rw [hMM] at hg
          have hm2 := HMY.out
          rw [hMM] at hm2
          rw [HRK.out.2, HRK.out.1, hg, if_pos rfl]
          refine ⟨some ⟨f0, 0, none⟩, cap0, cs, by rw [hcl]; rfl, ?_, ?_, HB.out.trans ((H4.out.1.trans (HACC.out.bel.mono H4.out.1.size)).mono HB.out.size)⟩
          · rw [hcl]; exact HACC.out.own.mono (Nat.le_trans HB.out.size H4.out.1.size)
          · rw [HACC.out.con, hm2]
end

section
open Go.RowKit Ieee
set_option maxRecDepth 100000
set_option linter.unusedVariables false
set_option linter.unusedSimpArgs false

theorem tab_part {n a c : Nat} (f : Nat → Nat) (h : a + c ≤ n) : ((tab n f).drop a).take c = tab c fun i => f (a + i) := by
  obtain ⟨r, rfl⟩ : ∃ r, n = a + (c + r) := ⟨n - a - c, by omega⟩
  rw [tab_add, List.drop_left' (tab_length _ _), tab_add, List.take_left' (tab_length _ _)]

set_option maxHeartbeats 4000000 in
theorem sJobRows_any (w : World) (p q : Tri) (j : JobX) (f n : Int) (xs ys : List Nat) (hp : SlF w (.slice p.s p.l p.c) xs) (hq : SlF w (.slice q.s q.l q.c) ys) :
    Calls Try.prog 23 #[.agg #[.int .i64 p.a, .int .i64 p.b, .slice p.s p.l p.c], .agg #[.int .i64 q.a, .int .i64 q.b, .slice q.s q.l q.c], .agg j.v, .agg #[.int .i64 f, .int .i64 n]] w (RwRes (jrOk j p q f n xs ys) (jrL j p q f n xs ys) w) := by
  obtain ⟨i0, hi0, hz0, hz1, hz2⟩ := info_parts info_f32
  obtain ⟨W0, hW0⟩ : ∃ W, W = (((w.alloc (.cells #[.int .i64 p.a, .int .i64 p.b, .slice p.s p.l p.c] 34)).alloc (.cells #[.int .i64 q.a, .int .i64 q.b, .slice q.s q.l q.c] 34)).alloc (.cells j.v 54)).alloc (.cells #[.int .i64 f, .int .i64 n] 63) := ⟨_, rfl⟩
  obtain ⟨hb0, B1, B2, BJ, BZ⟩ := fourE hW0
  have A1 : p.at_ W0 w.heap.size 0 := ⟨B1.cells.1, B1.cells.2.1, B1.cells.2.2.1⟩
  have A2 : q.at_ W0 (w.heap.size + 1) 0 := ⟨B2.cells.1, B2.cells.2.1, B2.cells.2.2.1⟩
  have K0 := Lib.hid (l07IsE W0 (w.heap.size + 1 + 1) j BJ)
  have K1 := Lib.hid (fun n => l02TwoE (W0.drewN n) w.heap.size (w.heap.size + 1) 0 0 p q (A1.drewN n) (A2.drewN n) hp.leE.2 hq.leE.2)
  have hnd : ∀ n, Below W0.heap.size W0 (W0.drewN n) := fun n => below_drewN (Below.refl _ _) n
  have KT := Lib.hid (fun m hi h1 h2 => l07TileE (W0.drewN m) hi (w.heap.size + 1 + 1 + 1) f n (BZ.drewN m) h1 h2)
  have KV := Lib.hid (fun n (hj : j.ok = true) (hv : pairV p q = true) => l07VolumeE (W0.drewN n) w.heap.size (w.heap.size + 1) (w.heap.size + 1 + 1) p q j xs ys ((hp.below hb0).below (hnd n)) ((hq.below hb0).below (hnd n)) (B1.below (hnd n)) (B2.below (hnd n)) (BJ.below (hnd n)) hj hv)
  have HAJ := Lib.hid (fun V (hb : Below W0.heap.size W0 V) => six_of_box (BJ.below hb))
  have HAP := Lib.hid (fun V (hb : Below W0.heap.size W0 V) => picAt (show BoxN W0 w.heap.size #[.int .i64 p.a, .int .i64 p.b, .slice p.s p.l p.c] 34 from B1) hb)
  have HAZ := Lib.hid (fun V (hb : Below W0.heap.size W0 V) => (show V.cell? ⟨w.heap.size + 1 + 1 + 1, 0, none⟩ = some (.int .i64 f) ∧ V.cell? ⟨w.heap.size + 1 + 1 + 1, 1, none⟩ = some (.int .i64 n) from ⟨(BZ.below hb).cell 0, (BZ.below hb).cell 1⟩))
  have HB := Lib.hid hb0
  have HW0 := Lib.hid hW0
  have hp1 : w.heap.size + 1 + 1 + 1 < W0.heap.size := BZ.lt
  obtain ⟨rk, hrk⟩ : ∃ rk, rk = jrOk j p q f n xs ys := ⟨_, rfl⟩
  obtain ⟨rl, hrl⟩ : ∃ rl, rl = jrL j p q f n xs ys := ⟨_, rfl⟩
  rw [← hrk, ← hrl]
  have HRR := Lib.hid (And.intro hrk hrl)
  have HNO := Lib.hid (fun (h : (j.ok && pairV p q && tileOk p.b f n) = false) => (show rk = false ∧ rl = [] by
    have h2 : jrOk j p q f n xs ys = false := by unfold jrOk; rw [h]; simp
    rw [hrk, hrl, h2]
    exact ⟨rfl, jr_no h2⟩))
  unfold JobX.v at HW0 ⊢
  clear hp hq hb0 B1 B2 BJ BZ A1 A2 hW0 hrk hrl hnd
  cases h1 : j.ok
  · rw [h1] at K0 HNO
    have HR := Lib.hid (HNO.out (by simp))
    clear h1 KV HNO KT
    go_enter Try.func23, Try.ntmps23
    go_wp2_with fail
    rw [← HW0.out]
    refine K0.out.mono ?_
    rintro e w1 ⟨rfl, n, rfl⟩
    go_wp2_with fail
    go_ret2
    rw [HR.out.1, HR.out.2]
    exact RwRes.no (below_drewN HB.out n)
  cases h2 : pairV p q
  · rw [h1] at K0
    rw [h2] at K1
    rw [h1, h2] at HNO
    have HR := Lib.hid (HNO.out (by simp))
    clear h1 h2 KV HNO KT
    go_enter Try.func23, Try.ntmps23
    go_wp2_with fail
    rw [← HW0.out]
    refine K0.out.mono ?_
    rintro e w1 ⟨rfl, n1, rfl⟩
    go_wp2_with fail
    (with_reducible refine (K1.out n1).mono ?_)
    rintro e w1 ⟨rfl, n2, rfl⟩
    go_wp2_with fail
    go_ret2
    rw [HR.out.1, HR.out.2]
    exact RwRes.no (below_drewN HB.out _)
  obtain ⟨wd, hi, k, t1, t2, t3, t4, t5, hvv, e1, e2, e3, hpr⟩ := job_right xs ys h1 h2
  obtain ⟨hN, d1, d2, d3, d4, d5, d6, d7, d8⟩ := vVol_picE hvv
  rw [h1] at K0
  rw [h2] at K1
  have KV2 := Lib.hid (fun n => KV.out n h1 h2)
  have KT2 := Lib.hid (fun m => KT.out m hi d3 d4)
  rw [h1, h2, e2, Bool.true_and, Bool.true_and] at HNO
  have HAP2 := Lib.hid (fun V (hb : Below W0.heap.size W0 V) => (show V.cell? ⟨w.heap.size, 0, none⟩ = some (.int .i64 (wd : Int)) ∧ V.cell? ⟨w.heap.size, 1, none⟩ = some (.int .i64 (hi : Int)) by have h := HAP.out V hb; rw [e1, e2] at h; exact ⟨h.1, h.2.1⟩))
  obtain ⟨t, ht⟩ : ∃ t, t = jobT j p q xs ys := ⟨_, rfl⟩
  have hrk2 : rk = (tileOk hi f n && (List.range n.toNat).all fun i => goodJ t.L wd k j.solve (f.toNat + i)) := by
    rw [HRR.out.1]; unfold jrOk; rw [h1, h2, ← ht, e1, e2, e3]; simp
  have hrl2 : rl = if rk then tab (n.toNat * wd) (fun i => jw t.L wd k j.solve j.one j.more (f.toNat * wd + i)) else [] := by
    rw [HRR.out.2, HRR.out.1]; unfold jrL; rw [← ht, e1, e3]; simp
  have HRK := Lib.hid (And.intro hrk2 hrl2)
  rw [← ht] at t1 t2 t3 t4 t5 KV2
  have HT := Lib.hid (And.intro t1 (And.intro t2 (And.intro t3 (And.intro t4 t5))))
  have HVV := Lib.hid (And.intro hvv hpr)
  clear h1 h2 KV KT HRR hrk2 hrl2 ht t1 t2 t3 t4 t5 hvv hpr e1 e2 e3 HAP
  have hhi : (hi : Int) ≤ 24 := by omega
  cases htl : tileOk hi f n
  · rw [htl] at KT2 HNO
    have HR := Lib.hid (HNO.out rfl)
    clear htl HNO
    go_enter Try.func23, Try.ntmps23
    go_wp2_with fail
    rw [← HW0.out]
    refine K0.out.mono ?_
    rintro e w1 ⟨rfl, n1, rfl⟩
    go_wp2_with fail
    (with_reducible refine (K1.out n1).mono ?_)
    rintro e w1 ⟨rfl, n2, rfl⟩
    rw [World.drewN_drewN]
    obtain ⟨a0, a1⟩ := HAP2.out (W0.drewN (n1 + n2)) (below_drewN (Below.refl _ _) _)
    go_wp2_with fail
    (with_reducible refine (KT2.out (n1 + n2)).mono ?_)
    rintro e w1 ⟨rfl, n3, rfl⟩
    go_wp2_with fail
    go_ret2
    rw [HR.out.1, HR.out.2]
    exact RwRes.no (below_drewN HB.out _)
  obtain ⟨F, M, rfl, rfl, m1, m2⟩ := tileOk_spec htl
  rw [htl] at KT2
  rw [htl, Bool.true_and, Int.toNat_natCast, Int.toNat_natCast] at HRK
  clear htl HNO
  go_enter Try.func23, Try.ntmps23
  go_wp2_with fail
  rw [← HW0.out]
  refine K0.out.mono ?_
  rintro e w1 ⟨rfl, n1, rfl⟩
  go_wp2_with fail
  (with_reducible refine (K1.out n1).mono ?_)
  rintro e w1 ⟨rfl, n2, rfl⟩
  rw [World.drewN_drewN]
  obtain ⟨a0, a1⟩ := HAP2.out (W0.drewN (n1 + n2)) (below_drewN (Below.refl _ _) _)
  go_wp2_with fail
  (with_reducible refine (KT2.out (n1 + n2)).mono ?_)
  rintro e w1 ⟨rfl, n3, rfl⟩
  rw [World.drewN_drewN]
  clear a0 a1
  go_wp2_with fail
  (with_reducible refine (KV2.out (n1 + n2 + n3)).mono ?_)
  rintro e w2 ⟨s, c, bs, rfl, ho, hc, hb⟩
  have hb2 : Below W0.heap.size W0 w2 := (below_drewN (Below.refl _ _) (n1 + n2 + n3)).trans hb
  have hbl : bs.length = wd * hi * k := by have := congrArg List.length hc; rw [List.length_map] at this; rw [this, HT.out.2.2.2.2]
  have hpos : 0 < wd * hi * k := Nat.mul_pos (Nat.mul_pos d1 d3) d6
  obtain ⟨g, rfl⟩ := own_ptrE ho (by omega)
  rw [HT.out.1, HT.out.2.1, HT.out.2.2.1, HT.out.2.2.2.1]
  rw [hbl] at ho ⊢
  obtain ⟨N, hNN⟩ : ∃ N, N = wd * hi * k := ⟨_, rfl⟩
  rw [← hNN] at ho ⊢
  have hvN : vVol wd hi k N = true := by rw [hNN]; exact HVV.out.1
  have hgl := (ho.lt (k := g) rfl).2
  obtain ⟨w3, hw3⟩ : ∃ w3, w3 = w2.alloc (.cells #[.int .i64 wd, .int .i64 hi, .int .i64 k, .slice (some ⟨g, 0, none⟩) N c] 31) := ⟨_, rfl⟩
  obtain ⟨hb3, BV, hs3⟩ := box_new hw3
  have hb03 : Below W0.heap.size W0 w3 := hb2.trans (hb3.mono hb2.size)
  have hsl := ho.sl.below hb3
  have hV3 : VolAt w3 w2.heap.size wd hi k g 0 N c bs := ⟨BV, hsl, by omega⟩
  obtain ⟨j0, j1, j2, j3, j4, j5⟩ := HAJ.out w3 hb03
  obtain ⟨v0, v1, v2, v3⟩ := four_of_box BV
  obtain ⟨a0, a1⟩ := HAP2.out w3 hb03
  obtain ⟨z0, z1⟩ := HAZ.out w3 hb03
  have hAA : F * wd ≤ 24 * 24 := Nat.mul_le_mul (by omega) d2
  obtain ⟨AA, hA⟩ : ∃ AA, AA = F * wd := ⟨_, rfl⟩
  have ea : IntKind.i64.wrap ((wd : Int) * (F : Int)) = (AA : Int) := by rw [hA, Nat.mul_comm, Int.natCast_mul]; exact IntWalk.i64_in _ (by rw [← Int.natCast_mul, Nat.mul_comm]; omega)
  have HV3 := Lib.hid hV3
  have HC := Lib.hid hc
  have HW3 := Lib.hid hw3
  have HB3 := Lib.hid hb03
  have HA := Lib.hid hA
  have HS3 := Lib.hid hs3
  have KW := Lib.hid (sWinnersE w3 wd hi k N g c bs hvN hsl)
  rw [wonT_fl hc] at KW
  obtain ⟨LL, hLL⟩ : ∃ LL, LL = tab (hi * wd) fun i => wonE k (gc t.L wd k (i % wd) (i / wd)) := ⟨_, rfl⟩
  have hwt : wonT t.L wd hi k = ⟨true, wd, hi, LL⟩ := by rw [hLL]; rfl
  rw [hwt] at KW
  have HLL := Lib.hid hLL
  clear hwt hLL
  have hg3 : g < w3.heap.size := by omega
  have hbox3 : w2.heap.size < w3.heap.size := BV.lt
  rw [← hA] at hAA
  rw [hw3] at j0 j1 j2 j3 j4 j5 v0 v1 v2 v3 a0 a1 z0 z1
  clear hNN ho hc hb hb2 hbl hpos hvN hgl hw3 hb3 BV hb03 hsl hV3 K0 K1 KT2 KV2 hs3 hA
  cases hs : j.solve
  · rw [hs] at j3 HRK
    clear hs
    go_wp2_with fail
    rw [← HW3.out]
    clear j0 j1 j2 j3 j4 j5 v0 v1 v2 v3 a0 a1 z0 z1
    (with_reducible refine KW.out.mono ?_)
    rintro e w4 ⟨s4, c4, cs, rfl, ho, hc, hb⟩
    have hcl : cs.length = hi * wd := by
      have h6 : bs.map fl = t.L := HC.out
      have := congrArg List.length hc
      rw [List.length_map, HLL.out] at this
      rw [this]; exact tab_length _ _
    have hpos : 0 < hi * wd := Nat.mul_pos d3 d1
    obtain ⟨g4, rfl⟩ := own_ptrE ho (by omega)
    have hsz := ho.sl.size
    have hgl4 := (ho.lt (k := g4) rfl)
    obtain ⟨W5, hW5⟩ : ∃ W5, W5 = w4.alloc (.cells #[.int .i64 wd, .int .i64 hi, .slice (some ⟨g4, 0, none⟩) cs.length c4] 35) := ⟨_, rfl⟩
    obtain ⟨hb5, BM, hs5⟩ := box_new hW5
    obtain ⟨W6, hW6⟩ : ∃ W6, W6 = W5.alloc (.cells #[] 44) := ⟨_, rfl⟩
    have hb6 : Below W5.heap.size W5 W6 := by rw [hW6]; exact alE _ _
    have hb45 : Below w3.heap.size w3 W5 := hb.trans (hb5.mono hb.size)
    have hb36 : Below w3.heap.size w3 W6 := hb45.trans (hb6.mono hb45.size)
    have hb06 : Below W0.heap.size W0 W6 := HB3.out.trans (hb36.mono HB3.out.size)
    have x2 := (BM.below hb6).cell 2
    simp only [List.size_toArray, List.length_cons, List.length_nil, List.getElem?_toArray, List.getElem?_cons_zero, List.getElem?_cons_succ] at x2
    have a0 := (HAP2.out W6 hb06).1
    have z1 := (HAZ.out W6 hb06).2
    have hml := BM.lt
    obtain ⟨CC, hCC⟩ : ∃ CC, CC = M * wd := ⟨_, rfl⟩
    have hCC2 : CC ≤ 24 * 24 := by rw [hCC]; exact Nat.mul_le_mul (by omega) d2
    have hAC : AA + CC ≤ cs.length := by rw [HA.out, hCC, hcl, ← Nat.add_mul]; exact Nat.mul_le_mul_right _ m2
    have hC0 : 0 < CC := by rw [hCC]; exact Nat.mul_pos m1 d1
    have ec : IntKind.i64.wrap ((wd : Int) * (M : Int)) = (CC : Int) := by rw [hCC, Nat.mul_comm, Int.natCast_mul]; exact IntWalk.i64_in _ (by rw [← Int.natCast_mul, Nat.mul_comm]; omega)
    have e4 : IntKind.i64.wrap ((AA : Int) + (CC : Int)) = (AA : Int) + CC := IntWalk.i64_in _ (by omega)
    have p1 : (AA : Int) ≤ (AA : Int) + CC := by omega
    have p2 : (AA : Int) + CC ≤ (c4 : Int) := by omega
    have p3 : ((AA : Int) + CC).toNat = AA + CC := by omega
    have p4 : (0 : Int) ≤ (AA : Int) + CC := by omega
    have k2 : ¬ CC = 0 := by omega
    have k5 : AA + CC - AA = CC := by omega
    have ck : ¬ c4 = AA := by omega
    obtain ⟨L2, hL2⟩ : ∃ L2, L2 = (cs.drop AA).take CC := ⟨_, rfl⟩
    have hll : L2.length = CC := by rw [hL2, List.length_take, List.length_drop]; omega
    have hL3 : ∀ b ∈ L2, b < 4294967296 := fun b hb => ho.2 b (by rw [hL2] at hb; exact List.mem_of_mem_drop (List.mem_of_mem_take hb))
    have hL4 : L2.map fl = tab CC fun i => wonE k (gc t.L wd k ((AA + i) % wd) ((AA + i) / wd)) := by
      have h7 : cs.map fl = LL := hc
      rw [hL2, List.map_take, List.map_drop, h7, HLL.out]
      exact tab_part _ (by omega)
    have ho6 := (ho.below hb5).below hb6
    have hn6 : ∀ i u, (L2.map (Value.float .f32))[i]? = some u → W6.cell? ((⟨g4, AA, none⟩ : Addr).add i) = some u := fun i u hu => by
      have h1 := (List.getElem?_eq_some_iff.1 hu).1
      rw [List.length_map, hll] at h1
      have h2 := World.ownsRow.cellAt ho6.1 (AA + i) (by omega)
      rw [show (⟨g4, AA, none⟩ : Addr).add i = ⟨g4, AA + i, none⟩ by simp only [Addr.add]; split <;> simp_all]
      rw [h2, ← hu, hL2, List.map_take, List.map_drop, List.getElem?_take, if_pos h1, List.getElem?_drop]
    have hst := AccS.start W5 W5.heap.size rfl
    rw [← hW6] at hst
    have hown0 := hst.own.1
    have HST := Lib.hid (And.intro hst (And.intro hb45 hb6))
    have HL := Lib.hid (And.intro hL3 (And.intro hL4 hCC))
    have HW6 := Lib.hid hW6
    have HW5 := Lib.hid hW5
    have hs56 : W6.heap.size = W5.heap.size + 1 := by rw [hW6]; simp
    rw [hW6, hW5] at x2 a0 z1
    clear hL2 hW6 hW5 hst hL3 hL4 hCC hb5 hb6 hb45 hb36 hb06 BM hcl hpos hc ho ho6 hb KW HLL
    go_wp2_with (at_builtin; rw [← HW5.out, ← HW6.out]; refine wpList_append_lies _ (by rfl) _ _ _ (by rfl) W5.heap.size 44 i0 _ 1 4 Try.underlying22 hi0 hz0 hz1 hz2 rfl (by omega) (.slice (some ⟨W5.heap.size, 0, none⟩) 0 0) 0 [] (by first | rfl | (rw [HW5.out]; rfl) | (rw [HW5.out]; simp [go_sem])) hown0 ⟨g4, AA, none⟩ CC (c4 - AA) (L2.map (Value.float .f32)) (by rfl) (by simp [hll]) hn6 (by simp [Value.oneCell']) (by omega) (by unfold maxLen; omega) (by omega) (by omega) (W6.heap.size) (by rfl) ?_; intro gg cap w7 hown2 hgrow hat hlt2)
    clear x2 a0 z1
    go_ret2
    have hall : ((List.range M).all fun i => goodJ t.L wd k false (F + i)) = true := by rw [List.all_eq_true]; intro i _; rfl
    rw [HRK.out.2, HRK.out.1, hall, if_pos rfl]
    have h := HST.out.1.app (w1 := W6) (cs := L2) (M := tab CC fun i => wonE k (gc t.L wd k ((AA + i) % wd) ((AA + i) / wd))) (Below.refl _ _) (by simpa [hll] using hown2) HL.out.1 HL.out.2.1 hgrow
    have hbF := HB.out.trans ((HB3.out.trans ((HST.out.2.1.trans (h.bel.mono HST.out.2.1.size)).mono HB3.out.size)).mono HB.out.size)
    refine ⟨some ⟨gg, 0, none⟩, cap, L2, by rw [hll]; rfl, ?_, ?_, hbF⟩
    · have := h.own
      simp only [List.nil_append] at this
      exact this.mono (Nat.le_trans HB.out.size (Nat.le_trans HB3.out.size HST.out.2.1.size))
    · rw [HL.out.2.1, HL.out.2.2, HA.out]
      unfold tab
      refine List.map_congr_left fun i _ => ?_
      unfold jw
      rw [if_neg (by simp)]
  · rw [hs] at j3 HRK
    clear hs KW HLL
    obtain ⟨hpo, hpm⟩ := prOk_parts HVV.out.2
    have hPA : PrcAt w3 (w.heap.size + 1 + 1) 4 j.one j.more := by
      obtain ⟨j0, j1, j2, j3, j4, j5⟩ := HAJ.out w3 HB3.out
      exact ⟨by have := HB3.out.size; omega, j4, j5⟩
    have KR := Lib.hid (fun W (hb : Below w3.heap.size w3 W) y (hy : y < hi) => sRowE W w2.heap.size wd hi k g N c (w.heap.size + 1 + 1) 4 y j.one j.more bs t.L y rfl HC.out (HV3.out.below hb) (hPA.below hb) d1 d2 d4 d6 d7 hy (Nat.lt_of_lt_of_le hg3 hb.size) hpo hpm)
    have hst := AccS.start w3 (w2.heap.size + 1) HS3.out
    obtain ⟨W4, hW4⟩ : ∃ W4, W4 = w3.alloc (.cells #[] 44) := ⟨_, rfl⟩
    rw [← hW4] at hst
    have ST := Lib.hid hst
    have hb04 : Below W0.heap.size W0 W4 := by rw [hW4]; exact HB3.out.trans ((alE _ _).mono HB3.out.size)
    obtain ⟨z0, z1⟩ := HAZ.out W4 hb04
    have HW4 := Lib.hid hW4
    rw [hW4, HW3.out] at z0 z1
    clear hst hW4 hb04 hPA
    go_wp2_with fail
    rw [← HW3.out, ← HW4.out]
    clear j0 j1 j2 j3 j4 j5 v0 v1 v2 v3 a0 a1 z0 z1
    have hFM : ((F : Int) + (M : Int)) = ((F + M : Nat) : Int) := by simp
    have hw1 : IntKind.i64.wrap ((F : Int) + (M : Int)) = ((F + M : Nat) : Int) := by rw [hFM]; exact IntWalk.i64_in _ (by omega)
    obtain ⟨FM, hfm⟩ : ∃ FM, FM = F + M := ⟨_, rfl⟩
    rw [← hfm] at hw1 m2
    clear hFM
    go_loopw [15, 16] (fun v15 v16 wr => ∃ (y f0 cap m : Nat) (cs : List Nat), v15 = .slice (some ⟨f0, 0, none⟩) m cap ∧ v16 = .int .i64 y ∧ F ≤ y ∧ y ≤ FM ∧ m = (y - F) * wd ∧ AccS w3 wr (.slice (some ⟨f0, 0, none⟩) m cap) cs (tab m fun i => jw t.L wd k true j.one j.more (F * wd + i)) ∧ ((List.range (y - F)).all fun i => goodJ t.L wd k true (F + i)) = true) (fun _ v16 _ => FM - (intOf v16).toNat)
    case atStart => exact ⟨F, _, _, 0, [], rfl, rfl, Nat.le_refl _, by omega, by simp, ST.out, by simp⟩
    case round =>
      clear ST
      obtain ⟨y, f0, cap0, m, cs, rfl, rfl, y1, y2, hmy, hacc, hgood⟩ := hrel
      have HACC := Lib.hid hacc
      have HGOOD := Lib.hid hgood
      have HMY := Lib.hid hmy
      have hcl : cs.length = m := by have := congrArg List.length hacc.con; rwa [List.length_map, tab_length] at this
      have hbs := hacc.bel.size
      have hbr := HB3.out.trans (hacc.bel.mono HB3.out.size)
      obtain ⟨z0, z1⟩ := HAZ.out _ hbr
      have hml : m ≤ 24 * 24 := by rw [hmy]; exact Nat.mul_le_mul (by omega) d2
      clear hacc hgood hmy
      by_cases hlt : y < FM
      · have hltI : (y : Int) < FM := by omega
        have KR1 := Lib.hid (KR.out wr HACC.out.bel y (by omega))
        go_wp2_with fail
        clear z0 z1
        (with_reducible refine KR1.out.mono ?_)
        rintro e w6 ⟨h | h, hb6⟩
        case inr =>
          obtain ⟨hg1, rfl⟩ := h
          have hr : rk = false ∧ rl = [] := by
            have h : ((List.range M).all fun i => goodJ t.L wd k true (F + i)) = false := by
              rw [List.all_eq_false]
              refine ⟨y - F, List.mem_range.2 (by omega), ?_⟩
              rw [show F + (y - F) = y by omega]
              unfold goodJ
              rw [hg1]; simp
            rw [HRK.out.2, HRK.out.1, h]; simp
          have HR := Lib.hid hr
          have HF := Lib.hid (HB.out.trans ((HB3.out.trans ((HACC.out.bel.trans (hb6.mono hbs)).mono HB3.out.size)).mono HB.out.size))
          clear hr hg1 hb6 KR1
          go_wp2_with fail
          go_ret2
          rw [HR.out.1, HR.out.2]
          exact RwRes.no HF.out
        obtain ⟨hg1, g6, c6, fw, rfl, hrow⟩ := h
        have hcell : ∀ x, x < wd → w6.cell? ⟨g6, x, none⟩ = some (.int .i64 (rowD (gc t.L wd k · y ·) j.one j.more k wd x : Nat)) := fun x hx => by
          have := hrow.cellAt x (by unfold rowL; rw [tabZ_len]; exact hx)
          unfold rowL at this
          rw [tabZ_getD hx] at this
          exact this
        have hgl := hrow.lt (k := g6) rfl
        have hf0 := (HACC.out.own.lt (k := f0) rfl).2
        have HAC := Lib.hid (HACC.out.below hb6)
        have HG := Lib.hid hg1
        have hg6 : g6 < w6.heap.size := hgl.2
        have hf6 : f0 ≠ g6 := by have := hgl.1; omega
        have HCE := Lib.hid hcell
        clear hrow hcell hgl hb6 hg1 KR1 hf0 HACC
        go_wp2_with fail
        go_loopw [15, 20] (fun v15 v20 wq => ∃ (x f1 cap m1 : Nat) (cs : List Nat), v15 = .slice (some ⟨f1, 0, none⟩) m1 cap ∧ v20 = .int .i64 x ∧ x ≤ wd ∧ m1 = m + x ∧ AccS w3 wq (.slice (some ⟨f1, 0, none⟩) m1 cap) cs (tab m1 fun i => jw t.L wd k true j.one j.more (F * wd + i)) ∧ g6 < wq.heap.size ∧ f1 ≠ g6 ∧ (∀ x, x < wd → wq.cell? ⟨g6, x, none⟩ = some (.int .i64 (rowD (gc t.L wd k · y ·) j.one j.more k wd x : Nat)))) (fun _ v20 _ => wd - (intOf v20).toNat)
        case atStart => exact ⟨0, _, _, m, cs, rfl, rfl, Nat.zero_le _, by omega, HAC.out, hg6, hf6, HCE.out⟩
        case round =>
          clear HAC HCE hg6 hf6
          obtain ⟨x, f1, cap1, mm, cs1, rfl, rfl, hx, hmm, hacc, hg6, hf6, hcell⟩ := hrel
          have HAC := Lib.hid hacc
          have HCE := Lib.hid hcell
          have HMM := Lib.hid hmm
          have hcl1 : cs1.length = mm := by have := congrArg List.length hacc.con; rwa [List.length_map, tab_length] at this
          have hown := hacc.own.1
          rw [hcl1] at hown
          have hbq := hacc.bel.size
          have hmmb : mm ≤ 1000 := by omega
          clear hacc hcell hmm
          by_cases hlx : x < wd
          · have hlxI : (x : Int) < wd := by omega
            have cx := HCE.out x hlx
            have hrd := rowD_lt (C := (gc t.L wd k · y ·)) (o := j.one) (m := j.more) (wd := wd) d6 x
            obtain ⟨u, hu⟩ : ∃ u, u = rowD (gc t.L wd k · y ·) j.one j.more k wd x := ⟨_, rfl⟩
            rw [← hu] at cx hrd
            have hr32 := ofInt_lt (u : Int)
            obtain ⟨r, hr⟩ : ∃ r, floatOfInt .f32 (u : Int) = r := ⟨_, rfl⟩
            rw [hr] at hr32
            have HZ := Lib.hid (And.intro hu hr)
            clear hu
            go_wp2_with (at_builtin; refine wpList_append_lies _ (by rfl) _ _ _ (by rfl) w3.heap.size 44 i0 _ 1 4 Try.underlying22 hi0 hz0 hz1 hz2 rfl (by omega) (.slice (some ⟨f1, 0, none⟩) mm cap1) mm _ (by rfl) (World.ownsRow.alloc hown _) ⟨wr.heap.size, 0, none⟩ 1 1 [.float .f32 r] (by rfl) (by rfl) (cell_one_new _ _ _) (by simp [Value.oneCell']) (by omega) (by unfold maxLen; omega) (by omega) (by simp; omega) (wr.heap.size + 1) (by simp) ?_; intro gg cap w7 hown2 hgrow hat hlt2)
            go_roundw
            case rel =>
              refine ⟨x + 1, gg, cap, mm + 1, cs1 ++ [r], by go_num, by go_num, by omega, by rw [HMM.out]; omega, ?_⟩
              have hA := alE wr (.cells #[.float .f32 r] 44)
              have e2 : F * wd + mm = y * wd + x := by rw [HMM.out, HMY.out, ← Nat.add_assoc, ← Nat.add_mul]; congr 2; omega
              have h := HAC.out.app (w1 := wr.alloc (.cells #[.float .f32 r] 44)) (cs := [r]) (M := [jw t.L wd k true j.one j.more (F * wd + mm)]) hA (by simpa [hcl1] using hown2) (by intro b hb; simp at hb; omega) (by rw [e2]; unfold jw; rw [if_pos rfl, rowDW_at hlx]; unfold iw; rw [← HZ.out.1, HZ.out.2]; rfl) hgrow
              have hkey : w7.heap[g6]? = (wr.alloc (.cells #[.float .f32 r] 44)).heap[g6]? := hgrow.block g6 (by simp; omega) (by simp [Value.ownBlock]; exact fun e => hf6 e.symm)
              rw [← tab_succ] at h
              refine ⟨by simpa [hcl1] using h, Nat.lt_of_lt_of_le hg6 (Nat.le_trans hA.size hgrow.size), ?_, fun i hi_ => ?_⟩
              · rcases hat with h1 | h1
                · simp [Value.ownBlock] at h1
                  omega
                · omega
              · exact (World.cell?_of_block hkey).trans ((hA.cell (p := ⟨g6, i, none⟩) hg6).trans (HCE.out i hi_))
            case measure => simp [intOf]; omega
          · obtain rfl : wd = x := by omega
            go_wp2_with fail
            go_roundw
            case rel =>
              have e1 : y + 1 - F = y - F + 1 := by omega
              refine ⟨y + 1, f1, cap1, mm, cs1, rfl, by go_num, by omega, by omega, by rw [HMM.out, HMY.out, e1, Nat.add_mul, Nat.one_mul], HAC.out, ?_⟩
              rw [e1, all_range_succ, HGOOD.out, show F + (y - F) = y by omega]
              unfold goodJ
              rw [HG.out]; rfl
            case measure => simp [intOf]; omega
      · obtain rfl : FM = y := by omega
        have hMM : FM - F = M := by omega
        go_wp2_with fail
        go_ret2
        have hg := HGOOD.out
        rw [hMM] at hg
        have hm2 := HMY.out
        rw [hMM] at hm2
        rw [HRK.out.2, HRK.out.1, hg, if_pos rfl]
        refine ⟨some ⟨f0, 0, none⟩, cap0, cs, by rw [hcl]; rfl, ?_, ?_, HB.out.trans ((HB3.out.trans (HACC.out.bel.mono HB3.out.size)).mono HB.out.size)⟩
        · rw [hcl]; exact HACC.out.own.mono (Nat.le_trans HB.out.size HB3.out.size)
        · rw [HACC.out.con, hm2]
end

end Go.Proofs.Ytabbjilgpfnacaa
