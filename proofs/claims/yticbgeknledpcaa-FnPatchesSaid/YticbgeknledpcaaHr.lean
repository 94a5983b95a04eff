/- patches: the walk. -/
import Derived.Test.YticbgeknledpcaaHg
import Derived.Test.YticbgeknledpcaaHp
import Derived.Test.YticbgeknledpcaaHq
import Derived.Deep.LoopGhost
namespace Go.Proofs.Yticbgeknledpcaa
open Go.RowKit
set_option maxRecDepth 100000
set_option linter.unusedVariables false
set_option linter.unusedSimpArgs false

/-- Values; cells that hang together. -/
def valS (ks : List Int) (i : Nat) : Prop := 0 ≤ ks.getD i 0
def hangC (ks : List Int) (wd hi : Nat) (mo : Int) (i c : Nat) : Bool := hangF ks wd hi mo i (bsx (i % wd : Nat) c) (bsy (i / wd : Nat) c)
def nbC (wd i c : Nat) : Nat := (bsx (i % wd : Nat) c).toNat + wd * (bsy (i / wd : Nat) c).toNat
def hangH (ks : List Int) (wd hi : Nat) (mo : Int) (i j : Nat) : Prop := i < wd * hi ∧ ∃ c, c < 4 ∧ hangC ks wd hi mo i c = true ∧ j = nbC wd i c
theorem hangF_iff {ks : List Int} {wd hi : Nat} {mo : Int} {i : Nat} {u v : Int} : hangF ks wd hi mo i u v = true ↔ inB u v wd hi = true ∧ 0 ≤ ks.getD i 0 ∧ 0 ≤ ks.getD (u.toNat + wd * v.toNat) 0 ∧ ((ks.getD i 0 - ks.getD (u.toNat + wd * v.toNat) 0).natAbs : Int) ≤ mo := by
  unfold hangF; simp [Bool.and_eq_true]
def revC (c : Nat) : Nat := match c with | 0 => 1 | 1 => 0 | 2 => 3 | _ => 2
theorem hang_rel (ks : List Int) (wd hi : Nat) (mo : Int) (hw : 1 ≤ wd) : Rel (wd * hi) (valS ks) (hangH ks wd hi mo) := by
  have key : ∀ i j, hangH ks wd hi mo i j → hangH ks wd hi mo j i ∧ i < wd * hi ∧ j < wd * hi ∧ valS ks i ∧ valS ks j := by
    rintro i j ⟨hi_, c, hc, hh, rfl⟩
    unfold hangC at hh
    rw [hangF_iff] at hh
    obtain ⟨hin, h1, h2, h3⟩ := hh
    obtain ⟨e1, e2, e3, e4⟩ := inB_cell hin
    have hj : nbC wd i c < wd * hi := by unfold nbC; exact xy_lt e3 e4
    have hm : nbC wd i c % wd = (bsx (i % wd : Nat) c).toNat := by unfold nbC; exact xy_mod e3
    have hd : nbC wd i c / wd = (bsy (i / wd : Nat) c).toNat := by unfold nbC; exact xy_div e3
    have hx : i % wd < wd := Nat.mod_lt _ hw
    have hy : i / wd < hi := (Nat.div_lt_iff_lt_mul hw).2 (by rw [Nat.mul_comm]; exact hi_)
    have hxy := Nat.mod_add_div i wd
    have r1 : bsx (nbC wd i c % wd : Nat) (revC c) = ((i % wd : Nat) : Int) ∧ bsy (nbC wd i c / wd : Nat) (revC c) = ((i / wd : Nat) : Int) := by
      rw [hm, hd]
      have : c = 0 ∨ c = 1 ∨ c = 2 ∨ c = 3 := by omega
      rcases this with rfl | rfl | rfl | rfl <;> simp only [bsx, bsy, revC] at e1 e2 ⊢ <;> omega
    have hback : nbC wd (nbC wd i c) (revC c) = i := by
      show (bsx (nbC wd i c % wd : Nat) (revC c)).toNat + wd * (bsy (nbC wd i c / wd : Nat) (revC c)).toNat = i
      rw [r1.1, r1.2, Int.toNat_natCast, Int.toNat_natCast]
      exact hxy
    refine ⟨⟨hj, revC c, by unfold revC; split <;> omega, ?_, hback.symm⟩, hi_, hj, h1, h2⟩
    unfold hangC
    rw [hangF_iff, r1.1, r1.2]
    have ez : ((i % wd : Nat) : Int).toNat + wd * ((i / wd : Nat) : Int).toNat = i := by rw [Int.toNat_natCast, Int.toNat_natCast]; exact hxy
    rw [ez]
    refine ⟨inB_iff.2 ⟨Int.natCast_nonneg _, Int.ofNat_lt.2 hx, Int.natCast_nonneg _, Int.ofNat_lt.2 hy⟩, h2, h1, ?_⟩
    show ((ks.getD (nbC wd i c) 0 - ks.getD i 0).natAbs : Int) ≤ mo
    have h3 : ((ks.getD i 0 - ks.getD (nbC wd i c) 0).natAbs : Int) ≤ mo := h3
    omega
  exact ⟨fun i j h => (key i j h).1, fun i j h => ⟨(key i j h).2.1, (key i j h).2.2.1⟩, fun i j h => ⟨(key i j h).2.2.2.1, (key i j h).2.2.2.2⟩⟩

theorem bes_bd {x y wd hi : Nat} (hx : x < wd) (hy : y < hi) (hw : wd ≤ 24) (hh : hi ≤ 24) (c : Nat) : -1 ≤ bsx x c ∧ bsx x c ≤ 24 ∧ -1 ≤ bsy y c ∧ bsy y c ≤ 24 := by
  unfold bsx bsy
  split <;> split <;> omega
theorem wrap_divH (k wd : Nat) (h : k ≤ 1000000) : wrap64 ((k : Int) / (wd : Int)) = ((k / wd : Nat) : Int) := by
  rw [← Int.natCast_ediv]
  have := Nat.div_le_self k wd
  generalize k / wd = q at *
  unfold wrap64; omega
theorem wrap_modH (k wd : Nat) (h : k ≤ 1000000) : wrap64 ((k : Int) % (wd : Int)) = ((k % wd : Nat) : Int) ∧ ((k : Int) % (wd : Int)) = ((k % wd : Nat) : Int) := by
  rw [← Int.natCast_emod]
  have := Nat.mod_le k wd
  generalize k % wd = q at *
  exact ⟨by unfold wrap64; omega, rfl⟩
theorem tabI_app (m : Nat) (g : Nat → Int) (v : Int) : tabI m g ++ [v] = tabI (m + 1) (updN g m v) := by
  unfold tabI
  rw [List.range_succ, List.map_append]
  congr 1
  · exact List.map_congr_left fun i hi => (updN_ne g v (by have := List.mem_range.1 hi; omega)).symm
  · show [v] = [updN g m v m]
    rw [updN_self]
theorem OwnI.base {w : World} {B B' g n cap : Nat} {ks : List Int} (h : OwnI w B (.slice (some ⟨g, 0, none⟩) n cap) ks) (hB : B' ≤ B) : OwnI w B' (.slice (some ⟨g, 0, none⟩) n cap) ks := by
  rcases h with ⟨h1, h2 | ⟨g', cap', cur, e1, e2, e3⟩⟩
  · cases h2.1
  · exact ⟨h1, .inr ⟨g', cap', cur, e1, Nat.le_trans hB e2, e3⟩⟩
theorem OwnI.far {w : World} {B g n cap b i : Nat} {ks : List Int} {v : Value} (h : OwnI w B (.slice (some ⟨g, 0, none⟩) n cap) ks) (hne : g ≠ b) : OwnI (w.setCell ⟨b, i, none⟩ v) B (.slice (some ⟨g, 0, none⟩) n cap) ks := h.grown (grown_setCell _ _ _) (.inr (by simpa [Value.ownBlock] using hne))
/-- What patches tells. -/
def MakesPat (W : World) (N : Nat) (S : Nat → Prop) (H : Nat → Nat → Prop) (e : Ending) (w' : World) : Prop :=
  ∃ (go gs cs m : Nat) (f g : Nat → Int), e = .returned (.tuple #[.slice (some ⟨go, 0, none⟩) N N, .slice (some ⟨gs, 0, none⟩) m cs]) ∧ OwnI w' W.heap.size (.slice (some ⟨go, 0, none⟩) N N) (tabI N f) ∧ OwnI w' W.heap.size (.slice (some ⟨gs, 0, none⟩) m cs) (tabI m g) ∧ Fl N S H f g m [] N ∧ Below W.heap.size W w' ∧ m ≤ N

set_option maxHeartbeats 8000000 in
theorem patches_q (W : World) (pb wd hi q c N : Nat) (ks : List Int) (mo : Int) (hN : N = wd * hi) (hw1 : 1 ≤ wd) (hw : wd ≤ 24) (hh1 : 1 ≤ hi) (hh : hi ≤ 24) (hN2 : N ≤ 256) (hm : mo.natAbs ≤ 1000) (hb : ∀ k ∈ ks, k.natAbs ≤ 500)
    (hP : PicAt W pb wd hi (.slice (some ⟨q, 0, none⟩) N c) (ks.map (fq 2)) 26) (hMQ : MQ W q c N ks) :
    Calls Try.prog 44 #[.pointer (some ⟨pb, 0, none⟩), .float .f32 (fq 2 mo)] W (MakesPat W N (valS ks) (hangH ks wd hi mo)) := by
  obtain ⟨i0, hi0, hz0, hz1, hz2⟩ := info_parts info_i64
  have hR := hang_rel ks wd hi mo hw1
  rw [← hN] at hR
  have HR := Lib.hid hR
  have HNN := Lib.hid hN
  have hlk : ks.length = N := by have := hP.len; rw [List.length_map] at this; rw [this, hN]
  have hkb : ∀ i, (ks.getD i 0).natAbs ≤ 500 := fun i => by
    rw [List.getD_eq_getElem?_getD]
    cases e : ks[i]? with
    | none => decide
    | some z => exact hb z (List.mem_of_getElem? e)
  have hN0 : 1 ≤ N := by rw [hN]; exact Nat.mul_pos hw1 hh1
  have HKB := Lib.hid hkb
  have KP := Lib.hid (fun w' (h : Below W.heap.size W w') => hP.below h)
  have KV := Lib.hid (fun w' (h : Below W.heap.size W w') i (hi_ : i < N) => show w'.cell? ⟨q, i, none⟩ = some (.float .f32 (fq 2 (ks.getD i 0))) from (hMQ.below h).get i hi_)
  have KH := Lib.hid (fun w' (h : Below W.heap.size W w') x y (hx : x < wd) (hy : y < hi) u v => hang_q w' pb wd hi _ ks x y u v mo hx hy (by omega) (by omega) hm hb (hP.below h))
  have hPl := hP.box.lt
  obtain ⟨vm, hvm⟩ : ∃ v, fq 2 mo = v := ⟨_, rfl⟩
  rw [hvm] at KH ⊢
  obtain ⟨z0, z1, z2, -, -, -⟩ := hP.box.cells
  have ha := alb1 W (.cells #[.int .i64 (-1)] 2)
  have KRP := Lib.hid (repeat_any (W.alloc (.cells #[.int .i64 (-1)] 2)) W.heap.size 1 N (by simp [go_sem]) (by simp) hN0 (by omega))
  have HA := Lib.hid ha
  clear hP hb hvm ha hR hlk hkb hN hMQ
  go_enter Try.func44, Try.ntmps44
  go_wp2_with fail
  clear z0 z1 z2
  refine KRP.out.mono ?_
  rintro e w1 ⟨go, rfl, hO1, hb1⟩
  have hbW := HA.out.trans (hb1.mono HA.out.size)
  have hO1' : OwnI w1 W.heap.size (.slice (some ⟨go, 0, none⟩) N N) (tabI N fun _ => (-1 : Int)) := by
    have e : List.replicate N (-1 : Int) = tabI N fun _ => (-1 : Int) := by unfold tabI; rw [List.map_const', List.length_range]
    rw [← e]
    obtain ⟨h1, h2⟩ := hO1
    rcases h2 with ⟨h, _⟩ | ⟨g', cap', cur, e1, e2, e3⟩
    · cases h
    · exact ⟨h1, .inr ⟨g', cap', cur, e1, Nat.le_trans HA.out.size e2, e3⟩⟩
  have ha2 := alb1 w1 (.cells #[] 2)
  have st2 : OwnI (w1.alloc (.cells #[] 2)) W.heap.size (.slice (some ⟨w1.heap.size, 0, none⟩) 0 0) (tabI 0 fun _ => (0 : Int)) :=
    ⟨rfl, .inr ⟨w1.heap.size, 0, #[], rfl, hbW.size, heap_alloc_new w1 _, Nat.le_refl _, by unfold maxLen; omega, rfl, rfl⟩⟩
  have st1 := hO1'.below ha2
  have hbW2 := hbW.trans (ha2.mono hbW.size)
  have hgo := (hO1'.lt (k := go) rfl)
  have HST := Lib.hid (And.intro st1 (And.intro st2 hbW2))
  obtain ⟨z0, z1, z2, -, -, -⟩ := (KP.out _ hbW2).box.cells
  clear hO1 hO1' hb1 hbW ha2 st1 st2 hbW2 KRP
  go_wp2_with fail
  clear z0 z1 z2
  go_loopw [29, 7] (fun v29 v7 wr => ∃ (i gs cs m : Nat) (f g : Nat → Int), v29 = .int .i64 i ∧ i ≤ N ∧ v7 = .slice (some ⟨gs, 0, none⟩) m cs ∧ OwnI wr W.heap.size (.slice (some ⟨go, 0, none⟩) N N) (tabI N f) ∧ OwnI wr W.heap.size (.slice (some ⟨gs, 0, none⟩) m cs) (tabI m g) ∧ Fl N (valS ks) (hangH ks wd hi mo) f g m [] i ∧ Below W.heap.size W wr ∧ gs ≠ go ∧ m ≤ i) (fun v29 _ _ => N - (intOf v29).toNat)
  case atStart => exact ⟨0, w1.heap.size, 0, 0, fun _ => -1, fun _ => 0, rfl, Nat.zero_le _, rfl, HST.out.1, HST.out.2.1, Fl.start _ _ _, HST.out.2.2, by omega, Nat.le_refl _⟩
  case round =>
    clear HST
    obtain ⟨i, gs, cs, m, f, g, rfl, hi_, rfl, hof, hsz, hfl, hbl, hne, hmi⟩ := hrel
    have HOF := Lib.hid hof
    have HSZ := Lib.hid hsz
    have HFL := Lib.hid hfl
    have HBL := Lib.hid hbl
    by_cases hlt : i < N
    · have cf := hof.cellAt i (by rw [tabI_length]; exact hlt)
      rw [tabI_get hlt] at cf
      obtain ⟨z0, z1, z2, -, -, -⟩ := (KP.out _ hbl).box.cells
      have iI : (i : Int) < N := by omega
      by_cases h0 : 0 ≤ f i
      · have h0d : decide (0 ≤ f i) = true := decide_eq_true h0
        clear hof hsz hfl hbl
        go_wp2_with fail
        go_roundw
        case rel => exact ⟨i + 1, gs, cs, m, f, g, by go_num, by omega, rfl, HOF.out, HSZ.out, HFL.out.skip (fun _ => h0), HBL.out, hne, by omega⟩
        case measure => simp [intOf]; omega
      · have h0d : decide (0 ≤ f i) = false := decide_eq_false h0
        have cv := KV.out _ hbl i hlt
        have kb := HKB.out i
        have lk := le0_fq (k := ks.getD i 0) (by omega)
        obtain ⟨vk, hvk⟩ : ∃ v, fq 2 (ks.getD i 0) = v := ⟨_, rfl⟩
        rw [hvk] at cv lk
        clear hof hsz hfl hbl hvk
        go_wp2_with fail
        refine (isHole_any _ _).mono ?_
        rw [lk]
        rintro e w' ⟨rfl, rfl⟩
        by_cases hs : 0 ≤ ks.getD i 0
        · rw [decide_eq_true hs]
          have hfi : f i < 0 := by omega
          have hnew := HFL.out.new HR.out hlt hs hfi
          have hos := HSZ.out
          unfold OwnI at hos
          rw [tabI_length] at hos
          have hgl := (HOF.out.lt (k := go) rfl)
          have hsl := (HSZ.out.lt (k := gs) rfl)
          have hbs := HBL.out.size
          have HNEW := Lib.hid hnew
          have HO1 := Lib.hid (HOF.out.below (alb1 wr (.cells #[.int .i64 1] 2)))
          have HB1 := Lib.hid (HBL.out.alloc hbs (.cells #[.int .i64 1] 2))
          have m24 : (m : Int) ≤ 300 := by omega
          clear lk cv hnew cf
          go_wp2_with (at_builtin; refine wpList_append_lies _ (by rfl) _ _ _ (by rfl) W.heap.size 2 i0 _ 1 8 Try.underlying39 hi0 hz0 hz1 hz2 rfl (by omega) (.slice (some ⟨gs, 0, none⟩) m cs) m _ (by rfl) (World.ownsRow.alloc hos _) ⟨wr.heap.size, 0, none⟩ 1 1 [.int .i64 1] (by rfl) (by rfl) (cell_one_new _ _ _) (by simp [Value.oneCell']) (by omega) (by unfold maxLen; omega) (by omega) (by simp; omega) (wr.heap.size + 1) (by simp) ?_; intro g2 cs2 w2 hown2 hgrow2 hat2 hlt2; have hO2 := HO1.out.grown hgrow2 (.inr (by simp [Value.ownBlock]; omega)); have ci := hO2.cellAt i (by rw [tabI_length]; exact hlt); have fi := hO2.free i)
          have hat2' : g2 = gs ∨ g2 = wr.heap.size + 1 := by
            rcases hat2 with h | h
            · left; simpa [Value.ownBlock] using h.symm
            · right; exact h
          have hg2 : g2 ≠ go := by omega
          obtain ⟨w4, hw4⟩ : ∃ w4, w4 = (w2.setCell ⟨go, i, none⟩ (.int .i64 m)).alloc (.cells #[.int .i64 i] 2) := ⟨_, rfl⟩
          have ha4 := alb1 (w2.setCell ⟨go, i, none⟩ (.int .i64 m)) (.cells #[.int .i64 i] 2)
          have of4 : OwnI w4 W.heap.size (.slice (some ⟨go, 0, none⟩) N N) (tabI N (updN f i m)) := by
            have := (hO2.put i (m : Int)).below ha4
            rw [tabI_set] at this
            rw [hw4]; exact this
          have sz4 : OwnI w4 W.heap.size (.slice (some ⟨g2, 0, none⟩) (m + 1) cs2) (tabI (m + 1) (updN g m 1)) := by
            have h1 : OwnI w2 W.heap.size (.slice (some ⟨g2, 0, none⟩) (m + 1) cs2) (tabI (m + 1) (updN g m 1)) := by
              rw [← tabI_app]
              unfold OwnI
              rw [List.length_append, List.map_append, tabI_length]
              exact hown2
            rw [hw4]; exact (h1.far hg2).below ha4
          have hszz : (w2.setCell ⟨go, i, none⟩ (Value.int .i64 (m : Int))).heap.size = w2.heap.size := by simp
          have hB2 : Below W.heap.size W w2 := HB1.out.grown hgrow2 (by simp; omega) (fun k hk => by simp [Value.ownBlock] at hk; omega)
          have hB4 : Below W.heap.size W w4 := by rw [hw4]; exact (hB2.setCell (p := ⟨go, i, none⟩) hgo.1 _).alloc (by rw [hszz]; exact hB2.size) _
          have q4 : QI w4 W.heap.size w2.heap.size 0 1 1 ([i].map fun n : Nat => (n : Int)) := by
            have h1 : OwnI w4 (w2.setCell ⟨go, i, none⟩ (Value.int .i64 (m : Int))).heap.size (.slice (some ⟨w2.heap.size, 0, none⟩) 1 1) [(i : Int)] := by
              rw [hw4]
              exact ⟨rfl, .inr ⟨w2.heap.size, 1, #[.int .i64 i], rfl, by rw [hszz]; exact Nat.le_refl _, by have := heap_alloc_new (w2.setCell ⟨go, i, none⟩ (Value.int .i64 (m : Int))) (.cells #[.int .i64 i] 2); rw [hszz] at this; exact this, Nat.le_refl _, by unfold maxLen; omega, rfl, rfl⟩⟩
            exact QI.of_own (h1.base (by rw [hszz]; exact hB2.size))
          have hg2l : g2 < w2.heap.size := hlt2
          have hgol : go < w2.heap.size := (hO2.lt (k := go) rfl).2
          have hcn := cN_le (updN f i m) (-1) N
          rw [← hw4]
          have HS4 := Lib.hid (And.intro of4 (And.intro sz4 (And.intro hB4 q4)))
          clear hw4 ha4 of4 sz4 hB4 q4 hszz hB2 hown2 hgrow2 hat2 hO2 ci fi hos
          go_loopg [10] (2 * N + 1) (fun gk v10 wz => ∃ (tb off len cap : Nat) (todo : List Nat) (f' g' : Nat → Int), v10 = .slice (some ⟨tb, off, none⟩) len cap ∧ QI wz W.heap.size tb off len cap (todo.map fun n : Nat => (n : Int)) ∧ OwnI wz W.heap.size (.slice (some ⟨go, 0, none⟩) N N) (tabI N f') ∧ OwnI wz W.heap.size (.slice (some ⟨g2, 0, none⟩) (m + 1) cs2) (tabI (m + 1) g') ∧ Fl N (valS ks) (hangH ks wd hi mo) f' g' (m + 1) todo (i + 1) ∧ Below W.heap.size W wz ∧ tb ≠ go ∧ tb ≠ g2 ∧ 2 * cN f' (-1) N + len ≤ gk ∧ gk ≤ 2 * N + 1)
          case atStart => exact ⟨w2.heap.size, 0, 1, 1, [i], _, _, rfl, HS4.out.2.2.2, HS4.out.1, HS4.out.2.1, HNEW.out, HS4.out.2.2.1, by omega, by omega, by omega, Nat.le_refl _⟩
          case round =>
            clear HS4 hcn
            obtain ⟨tb, off, len, cap, todo, f', g', rfl, hq, hof, hsz, hfl, hbl, nt1, nt2, hgk, hgkN⟩ := hrel
            have HQ := Lib.hid hq
            have HOF2 := Lib.hid hof
            have HSZ2 := Lib.hid hsz
            have HFL2 := Lib.hid hfl
            have HBL2 := Lib.hid hbl
            have hql : todo.length = len := by have := hq.ln; rw [List.length_map] at this; exact this
            cases todo with
            | nil =>
              obtain rfl : len = 0 := hql.symm
              clear hq hof hsz hfl hbl
              go_wp2_with fail
              go_roundw
              case rel => exact ⟨i + 1, g2, cs2, m + 1, f', g', by go_num, by omega, rfl, HOF2.out, HSZ2.out, HFL2.out, HBL2.out, hg2, by omega⟩
              case measure => simp [intOf]; omega
            | cons h rest =>
              obtain ⟨l2, rfl⟩ : ∃ l2, len = l2 + 1 := ⟨rest.length, by simpa using hql.symm⟩
              have hht := HFL2.out.tod h (by simp)
              have ch := hq.cells 0 (by omega)
              rw [Nat.add_zero] at ch
              have eh : ((h :: rest).map fun n : Nat => (n : Int)).getD 0 0 = (h : Int) := rfl
              rw [eh] at ch
              obtain ⟨z0, z1, z2, -, -, -⟩ := (KP.out _ hbl).box.cells
              obtain ⟨x, hx⟩ : ∃ x, x = h % wd := ⟨_, rfl⟩
              obtain ⟨y, hy⟩ : ∃ y, y = h / wd := ⟨_, rfl⟩
              obtain ⟨m1, m2⟩ := wrap_modH h wd (by omega)
              have m3 := wrap_divH h wd (by omega)
              rw [← hx] at m1 m2
              rw [← hy] at m3
              have hxl : x < wd := by rw [hx]; exact Nat.mod_lt _ hw1
              have hyl : y < hi := by rw [hy]; exact (Nat.div_lt_iff_lt_mul hw1).2 (by rw [Nat.mul_comm, ← HNN.out]; exact hht.1)
              have wd0 : ¬ wd = 0 := by omega
              have wdI : ¬ (wd : Int) = 0 := by omega
              have HXY := Lib.hid (And.intro hx (And.intro hy (And.intro hxl hyl)))
              have hbd := hbl.size
              have l2I : (0 : Int) < (l2 : Int) + 1 := by omega
              have KBE := Lib.hid (fun w' => besides_any w' x y (by rw [Int.natAbs_natCast]; exact Nat.le_trans (Nat.le_of_lt hxl) (Nat.le_trans hw (by decide))) (by rw [Int.natAbs_natCast]; exact Nat.le_trans (Nat.le_of_lt hyl) (Nat.le_trans hh (by decide))))
              clear hq hof hsz hfl hbl hx hy hql hht eh
              go_wp2_with fail
              go_quiet (fail)
              go_wp2_with fail
              refine (KBE.out _).mono ?_
              rintro e w5 ⟨rfl, hb5⟩
              have hb5 : Below wr.heap.size wr w5 := below_undrew hb5
              have HB5 := Lib.hid (HBL2.out.trans (hb5.mono HBL2.out.size))
              have HQ5 := Lib.hid (HQ.out.below hb5)
              have HOF5 := Lib.hid (HOF2.out.below hb5)
              have HSZ5 := Lib.hid (HSZ2.out.below hb5)
              clear hb5 KBE m1
              go_wp2_with fail
              clear m2 m3
              obtain ⟨K0, hK0⟩ : ∃ K0, K0 = 2 * cN f' (-1) N + (l2 + 1) := ⟨_, rfl⟩
              rw [← hK0] at hgk
              have HK0 := Lib.hid hK0
              clear hK0
              go_loopw [82, 10] (fun v82 v10 wq => ∃ (cc tb2 off2 l3 cap2 : Nat) (rest2 : List Nat) (f2 g3 : Nat → Int), v82 = .int .i64 cc ∧ cc ≤ 4 ∧ v10 = .slice (some ⟨tb2, off2, none⟩) (l3 + 1) cap2 ∧ QI wq W.heap.size tb2 off2 (l3 + 1) cap2 ((h :: rest2).map fun n : Nat => (n : Int)) ∧ OwnI wq W.heap.size (.slice (some ⟨go, 0, none⟩) N N) (tabI N f2) ∧ OwnI wq W.heap.size (.slice (some ⟨g2, 0, none⟩) (m + 1) cs2) (tabI (m + 1) g3) ∧ Fl N (valS ks) (hangH ks wd hi mo) f2 g3 (m + 1) (h :: rest2) (i + 1) ∧ (∀ c', c' < cc → hangC ks wd hi mo h c' = true → f2 (nbC wd h c') = m) ∧ Below W.heap.size W wq ∧ tb2 ≠ go ∧ tb2 ≠ g2 ∧ 2 * cN f2 (-1) N + (l3 + 1) ≤ K0) (fun v82 _ _ => 4 - (intOf v82).toNat)
              case atStart => exact ⟨0, tb, off, l2, cap, rest, f', g', rfl, by omega, rfl, HQ5.out, HOF5.out, HSZ5.out, HFL2.out, fun c' hc => by omega, HB5.out, nt1, nt2, by rw [HK0.out]; exact Nat.le_refl _⟩
              case round =>
                clear HQ5 HOF5 HSZ5 HB5 nt1 nt2
                obtain ⟨cc, tb2, off2, l3, cap2, rest2, f2, g3, rfl, hcc, rfl, hq, hof, hsz, hfl, hdn, hbl, nt1, nt2, hmes⟩ := hrel
                have HQ3 := Lib.hid hq
                have HOF3 := Lib.hid hof
                have HSZ3 := Lib.hid hsz
                have HFL3 := Lib.hid hfl
                have HBL3 := Lib.hid hbl
                have HDN := Lib.hid hdn
                by_cases hc4 : cc < 4
                · have ccI : (cc : Int) < 4 := by omega
                  obtain ⟨hx, hy, hxl, hyl⟩ := HXY.out
                  obtain ⟨b1, b2, b3, b4⟩ := bes_bd hxl hyl hw hh cc
                  have hbx := hbl.alloc hbl.size (.cells #[.int .i64 (bsx x cc), .int .i64 (bsy y cc)] 75)
                  have hcl : ∀ w', Below (wr.heap.size + 1) (wr.alloc (.cells #[.int .i64 (bsx x cc), .int .i64 (bsy y cc)] 75)) w' → w'.cell? ⟨wr.heap.size, 0, none⟩ = some (.int .i64 (bsx x cc)) ∧ w'.cell? ⟨wr.heap.size, 1, none⟩ = some (.int .i64 (bsy y cc)) := by
                    intro w' hb'
                    have e0 := hb'.cell (p := ⟨wr.heap.size, 0, none⟩) (by simp)
                    have e1 := hb'.cell (p := ⟨wr.heap.size, 1, none⟩) (by simp)
                    rw [e0, e1]
                    constructor <;> simp [go_sem]
                  have hC : hangF ks wd hi mo h (bsx x cc) (bsy y cc) = hangC ks wd hi mo h cc := by unfold hangC; rw [hx, hy]
                  have hJ : nbC wd h cc = (bsx x cc).toNat + wd * (bsy y cc).toNat := by unfold nbC; rw [hx, hy]
                  have hxyh : x + wd * y = h := by rw [hx, hy]; exact Nat.mod_add_div h wd
                  obtain ⟨u, hu⟩ : ∃ u, bsx x cc = u := ⟨_, rfl⟩
                  obtain ⟨v, hv⟩ : ∃ v, bsy y cc = v := ⟨_, rfl⟩
                  have HUV := Lib.hid (And.intro hu hv)
                  obtain ⟨pz, hpz⟩ : ∃ pz : Int, pz = (wd : Int) * v := ⟨_, rfl⟩
                  rw [hu, hv] at hC hJ hcl hbx
                  rw [hu] at b1 b2
                  rw [hv] at b3 b4
                  have hpb : -24 ≤ pz ∧ pz ≤ 576 := by
                    rw [hpz]
                    constructor
                    · have := Int.mul_le_mul_of_nonneg_left b3 (show (0 : Int) ≤ wd by omega)
                      have h2 : (wd : Int) ≤ 24 := by omega
                      omega
                    · have h1 := Int.mul_le_mul_of_nonneg_left b4 (show (0 : Int) ≤ wd by omega)
                      have h2 : (wd : Int) ≤ 24 := by omega
                      omega
                  have hw1_ : IntKind.i64.wrap ((wd : Int) * v) = pz := by rw [← hpz]; exact IntWalk.i64_in _ (by omega)
                  have KHG := Lib.hid (fun w' (hb' : Below W.heap.size W w') => by have := KH.out w' hb' x y hxl hyl u v; rw [hxyh, hC] at this; exact this)
                  have HBX := Lib.hid hbx
                  have HCL := Lib.hid hcl
                  have HHX := Lib.hid (And.intro hJ hpz)
                  have hal := alb1 wr (.cells #[.int .i64 u, .int .i64 v] 75)
                  have HQ4 := Lib.hid (hq.below hal)
                  have HOF4 := Lib.hid (hof.below hal)
                  have HSZ4 := Lib.hid (hsz.below hal)
                  obtain ⟨z0, z1, z2, -, -, -⟩ := (KP.out _ hbx).box.cells
                  obtain ⟨c0, c1⟩ := hcl _ (Below.refl _ _)
                  obtain ⟨wc, hwc⟩ : ∃ wc, wc = wr.alloc (.cells #[.int .i64 u, .int .i64 v] 75) := ⟨_, rfl⟩
                  clear hq hof hsz hfl hdn hbl hbx hcl hx hy hxl hyl hC hJ hxyh hpz hal
                  have hHj : hangC ks wd hi mo h cc = true → hangH ks wd hi mo h (nbC wd h cc) ∧ u + pz = ((nbC wd h cc : Nat) : Int) := fun ht => by
                    refine ⟨⟨by rw [← HNN.out]; exact (HFL3.out.tod h (by simp)).1, cc, hc4, ht, rfl⟩, ?_⟩
                    have h1 := ht
                    unfold hangC at h1
                    rw [hangF_iff] at h1
                    obtain ⟨e1, e2, e3, e4⟩ := inB_cell h1.1
                    rw [← HXY.out.1, HUV.out.1] at e1
                    rw [← HXY.out.2.1, HUV.out.2] at e2
                    rw [HHX.out.1, HHX.out.2, Int.natCast_add, Int.natCast_mul, ← e1, ← e2]
                  have HHJ := Lib.hid hHj
                  have uI : u ≤ 24 := b2
                  clear hHj
                  go_wp2_with fail
                  go_quiet (fail)
                  go_wp2_with fail
                  clear z0 z1 z2 c0 c1
                  have hb15 : Below wc.heap.size wc (wc.drewN nq) := below_drewN (Below.refl _ _) _
                  rw [hwc] at hb15
                  refine (KHG.out _ (below_drewN HBX.out _)).mono ?_
                  rintro e w6 ⟨rfl, nh, hw6⟩
                  have hb6a : Below (wr.alloc (.cells #[.int .i64 u, .int .i64 v] 75)).heap.size (wr.alloc (.cells #[.int .i64 u, .int .i64 v] 75)) w6 := by rw [hw6]; exact below_drewN hb15 nh
                  have HB6 := Lib.hid (HBX.out.trans (hb6a.mono HBX.out.size))
                  have HQ6 := Lib.hid (HQ4.out.below hb6a)
                  have HOF6 := Lib.hid (HOF4.out.below hb6a)
                  have HSZ6 := Lib.hid (HSZ4.out.below hb6a)
                  clear hw6 hb6a hb15 hwc
                  cases hct : hangC ks wd hi mo h cc
                  · go_wp2_with fail
                    go_roundw
                    case rel => exact ⟨cc + 1, tb2, off2, l3, cap2, rest2, f2, g3, by go_num, by omega, rfl, HQ6.out, HOF6.out, HSZ6.out, HFL3.out, fun c' hc' ht => by
                      by_cases e : c' = cc
                      · rw [e, hct] at ht; cases ht
                      · exact HDN.out c' (by omega) ht, HB6.out, nt1, nt2, hmes⟩
                    case measure => simp [intOf]; omega
                  · obtain ⟨hH, hji⟩ := HHJ.out hct
                    obtain ⟨j, hj⟩ : ∃ j, nbC wd h cc = j := ⟨_, rfl⟩
                    rw [hj] at hH hji
                    have hjN := (HR.out.lt _ _ hH).2
                    have cj := HOF6.out.cellAt j (by rw [tabI_length]; exact hjN)
                    rw [tabI_get hjN] at cj
                    have j0 : (0 : Int) ≤ u + pz := by omega
                    have jN : u + pz < (N : Int) := by omega
                    have jT : (u + pz).toNat = j := by omega
                    have HJ := Lib.hid (And.intro hH (And.intro hji hj))
                    by_cases hneg : f2 j < 0
                    · have hadd := HFL3.out.add HR.out (by omega) hH hneg
                      rw [show ((m + 1 : Nat) : Int) - 1 = (m : Int) by omega, show m + 1 - 1 = m by omega] at hadd
                      have HADD := Lib.hid hadd
                      have hnd : decide (f2 j < 0) = true := decide_eq_true hneg
                      have fj := HOF6.out.free j
                      have cs6 := (HSZ6.out.far (b := go) (i := j) (v := .int .i64 m) hg2).cellAt m (by rw [tabI_length]; omega)
                      rw [tabI_get (by omega)] at cs6
                      have fs6 := (HSZ6.out.far (b := go) (i := j) (v := .int .i64 m) hg2).free m
                      have hgm := (HFL3.out.cnt m (by omega)).1
                      have hgm2 := cN_le f2 m N
                      have g0 : 0 ≤ g3 m := by omega
                      have g1 : g3 m ≤ 256 := by omega
                      have mI : (m : Int) < (m : Int) + 1 := by omega
                      have tq1 : some tb2 ≠ some go := fun e => nt1 (by injection e)
                      have tq2 : some tb2 ≠ some g2 := fun e => nt2 (by injection e)
                      have HQ7 := Lib.hid ((HQ6.out.grown (grown_setCell w6 ⟨go, j, none⟩ (.int .i64 m)) tq1).grown (grown_setCell _ ⟨g2, m, none⟩ (.int .i64 (g3 m + 1))) tq2)
                      have hgk2 : l3 + 1 ≤ 2 * N + 1 := by omega
                      have HBS := Lib.hid ((HB6.out.setCell (p := ⟨go, j, none⟩) hgo.1 (.int .i64 m)).setCell (p := ⟨g2, m, none⟩) ((HSZ6.out.lt (k := g2) rfl).1) (.int .i64 (g3 m + 1)))
                      have hgo6 : go < w6.heap.size := (HOF6.out.lt (k := go) rfl).2
                      have hg26 : g2 < w6.heap.size := (HSZ6.out.lt (k := g2) rfl).2
                      have hqlo3 := HQ6.out.lo
                      have hsz6 : ((w6.setCell ⟨go, j, none⟩ (.int .i64 m)).setCell ⟨g2, m, none⟩ (.int .i64 (g3 m + 1))).heap.size = w6.heap.size := by simp
                      have hc1 := cell_one_new ((w6.setCell ⟨go, j, none⟩ (.int .i64 m)).setCell ⟨g2, m, none⟩ (.int .i64 (g3 m + 1))) (.int .i64 (u + pz)) 2
                      rw [hsz6] at hc1
                      have HC1 := Lib.hid hc1
                      clear hc1 hsz6
                      have hx7 : OwnI (((w6.setCell ⟨go, j, none⟩ (.int .i64 m)).setCell ⟨g2, m, none⟩ (.int .i64 (g3 m + 1))).alloc (.cells #[.int .i64 (u + pz)] 2)) W.heap.size (.slice (some ⟨go, 0, none⟩) N N) (tabI N (updN f2 j m)) ∧ OwnI (((w6.setCell ⟨go, j, none⟩ (.int .i64 m)).setCell ⟨g2, m, none⟩ (.int .i64 (g3 m + 1))).alloc (.cells #[.int .i64 (u + pz)] 2)) W.heap.size (.slice (some ⟨g2, 0, none⟩) (m + 1) cs2) (tabI (m + 1) (updN g3 m (g3 m + 1))) ∧ Below W.heap.size W (((w6.setCell ⟨go, j, none⟩ (.int .i64 m)).setCell ⟨g2, m, none⟩ (.int .i64 (g3 m + 1))).alloc (.cells #[.int .i64 (u + pz)] 2)) := by
                        refine ⟨?_, ?_, HBS.out.alloc HBS.out.size _⟩
                        · have h1 := HOF6.out.put j (m : Int)
                          rw [tabI_set] at h1
                          exact (h1.far (b := g2) (i := m) (v := .int .i64 (g3 m + 1)) (fun e => hg2 e.symm)).below (alb1 _ _)
                        · have h1 := (HSZ6.out.far (b := go) (i := j) (v := .int .i64 m) hg2).put m (g3 m + 1)
                          rw [tabI_set] at h1
                          exact h1.below (alb1 _ _)
                      have HX7 := Lib.hid hx7
                      clear hx7
                      clear hH hji hj hadd hneg hgm hgm2
                      go_wp2_with (at_builtin; refine wpList_append_q (by rfl) _ _ (by rfl) W.heap.size tb2 off2 (l3 + 1) cap2 _ (by rfl) (HQ7.out.below (alb1 _ _)) (by have := HBS.out.size; simp at this ⊢; omega) (by omega) ⟨w6.heap.size, 0, none⟩ 1 (u + pz) (by rfl) HC1.out ?_; intro g9 off9 cap9 w9 hq9 hgr9 hat9)
                      go_roundw
                      case rel =>
                        have of9 := (HX7.out.1).grown hgr9 (.inr (by simp [Value.ownBlock]; exact fun e => nt1 e.symm))
                        have sz9 := (HX7.out.2.1).grown hgr9 (.inr (by simp [Value.ownBlock]; exact fun e => nt2 e.symm))
                        have bl9 := (HX7.out.2.2).grown hgr9 (by have := HX7.out.2.2.size; exact this) (fun k hk => by injection hk with hk; have := hqlo3; omega)
                        have hat9' : g9 = tb2 ∨ w6.heap.size + 1 ≤ g9 ∨ w6.heap.size ≤ g9 := by
                          rcases hat9 with q | q
                          · exact .inl q
                          · right; left; simpa using q
                        refine ⟨cc + 1, g9, off9, l3 + 1, cap9, rest2 ++ [j], updN f2 j m, updN g3 m (g3 m + 1), by go_num, by omega, rfl, ?_, of9, sz9, HADD.out.1, ?_, bl9, by omega, by omega, by have := HADD.out.2; omega⟩
                        · have := hq9
                          rw [HJ.out.2.1] at this
                          simpa using this
                        · intro c' hc' ht
                          by_cases e : nbC wd h c' = j
                          · rw [e, updN_self]
                          · rw [updN_ne _ _ e]
                            by_cases e2 : c' = cc
                            · subst e2; exact absurd HJ.out.2.2 e
                            · exact HDN.out c' (by omega) ht
                      case measure => simp [intOf]; omega
                    · have hsm := HFL3.out.same HR.out hH hneg
                      have hnd : decide (f2 j < 0) = false := decide_eq_false hneg
                      have HSM := Lib.hid hsm
                      clear hH hji hj hsm hneg
                      go_wp2_with fail
                      go_roundw
                      case rel => exact ⟨cc + 1, tb2, off2, l3, cap2, rest2, f2, g3, by go_num, by omega, rfl, HQ6.out, HOF6.out, HSZ6.out, HFL3.out, fun c' hc' ht => by
                        by_cases e : c' = cc
                        · rw [e, HJ.out.2.2, HSM.out]; omega
                        · exact HDN.out c' (by omega) ht, HB6.out, nt1, nt2, hmes⟩
                      case measure => simp [intOf]; omega
                · obtain rfl : cc = 4 := by omega
                  have hdrop : Fl N (valS ks) (hangH ks wd hi mo) f2 g3 (m + 1) rest2 (i + 1) := hfl.drop (by
                    rintro j ⟨_, c', hc', hh', rfl⟩
                    rw [hdn c' hc' hh']
                    omega)
                  have hln := hq.ln
                  have hcl3 := hq.capl
                  have hrl : rest2.length = l3 := by simpa using hln
                  have HDR := Lib.hid hdrop
                  have HRL := Lib.hid hrl
                  have hqt := hq.tail
                  have HQT := Lib.hid hqt
                  have hql0 := hq.lo
                  have hqlt := hq.lt
                  have HQQ := Lib.hid (And.intro hql0 hqlt)
                  have l3I : (0 : Int) < (l3 : Int) + 1 := by omega
                  have HMS := Lib.hid (And.intro hmes hgk)
                  by_cases hcap : cap2 = 1
                  · have hl30 : l3 = 0 := by omega
                    subst hcap
                    subst hl30
                    clear hq hof hsz hfl hdn hbl hdrop hln hcl3 hrl hqt hql0 hqlt hmes hgk
                    go_wp2_with fail
                    go_roundg (2 * cN f2 (-1) N + 0)
                    case measure => have := HMS.out; omega
                    case rel => exact ⟨tb2, _, 0, _, rest2, f2, g3, rfl, ⟨HQQ.out.1, HQQ.out.2, by rw [List.length_map]; exact HRL.out, fun j hj => by omega, fun j hj => by omega, Nat.le_refl _, by unfold maxLen; omega⟩, HOF3.out, HSZ3.out, HDR.out, HBL3.out, nt1, nt2, Nat.le_refl _, by have := HMS.out; omega⟩
                  · clear hq hof hsz hfl hdn hbl hdrop hln hcl3 hrl hqt hql0 hqlt hmes hgk
                    go_wp2_with fail
                    go_roundg (2 * cN f2 (-1) N + l3)
                    case measure => have := HMS.out; omega
                    case rel => exact ⟨tb2, off2 + 1, l3, cap2 - 1, rest2, f2, g3, rfl, HQT.out, HOF3.out, HSZ3.out, HDR.out, HBL3.out, nt1, nt2, Nat.le_refl _, by have := HMS.out; omega⟩
        · rw [decide_eq_false hs]
          clear lk cv
          go_wp2_with fail
          go_roundw
          case rel => exact ⟨i + 1, gs, cs, m, f, g, by go_num, by omega, rfl, HOF.out, HSZ.out, HFL.out.skip (fun h => by unfold valS at h; omega), HBL.out, hne, by omega⟩
          case measure => simp [intOf]; omega
    · obtain rfl : N = i := by omega
      clear hof hsz hfl hbl
      go_wp2_with fail
      first | go_ret2 | go_ret
      exact ⟨go, gs, cs, m, f, g, rfl, HOF.out, HSZ.out, HFL.out, HBL.out, hmi⟩

end Go.Proofs.Yticbgeknledpcaa
