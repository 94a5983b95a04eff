/- Pictures of means, of blurs; pictures that are alike; flat pictures. -/
import Derived.Test.YtialajgobpokmaaPc
namespace Go.Proofs.Ytialajgobpokmaa
open Go.RowKit
set_option maxRecDepth 100000
set_option linter.unusedVariables false
set_option linter.unusedSimpArgs false

theorem Bd.fopAdd {L H L' H' : Int} {a b : Nat} (h : Bd L H a) (h' : Bd L' H' b) (h1 : 0 ≤ L) (h2 : H ≤ 1000000) (h3 : 0 ≤ L') (h4 : H' ≤ 1000000) (h5 : L ≤ H) (h6 : L' ≤ H') : Bd (L + L') (H + H') (fop .add a b) := by
  obtain ⟨s, e, k⟩ := h.add h' h1 h2 h3 h4 h5 h6
  unfold fop; rw [e]; show Bd _ _ (Go.Proofs.Ytialajgobpokmaa.fl s); rw [k.fl]; exact k
theorem Bd.fopQuo {L H n : Int} {a : Nat} (h : Bd (n * L) (n * H) a) (h1 : 0 ≤ L) (h2 : n * H ≤ 1000000) (h3 : 0 < n) (h4 : n ≤ 1000) (h5 : L ≤ H) : Bd L H (fop .quo a (fq 0 n)) := by
  obtain ⟨s, e, k⟩ := h.quo h1 h2 h3 h4 h5
  unfold fop; rw [e]; show Bd _ _ (Go.Proofs.Ytialajgobpokmaa.fl s); rw [k.fl]; exact k
theorem two_fq : fq 0 2 = 1073741824 := by decide +kernel
theorem four_fq : fq 0 4 = 1082130432 := by decide +kernel
/-- Half of the sum of half of the sum of two numbers, and a third one. -/
def sftF (a b c : Nat) : Nat := fop .quo (fop .add (fop .quo (fop .add a b) 1073741824) c) 1073741824
theorem Bd.sft {L H : Int} {a b c : Nat} (ha : Bd L H a) (hb : Bd L H b) (hc : Bd L H c) (h1 : 0 ≤ L) (h2 : L ≤ H) (h3 : H ≤ 1000) : Bd L H (sftF a b c) := by
  unfold sftF
  rw [← two_fq]
  have k1 := ha.fopAdd hb h1 (by omega) h1 (by omega) h2 h2
  have k2 : Bd L H (fop .quo (fop .add a b) (fq 0 2)) := Bd.fopQuo (by rw [show 2 * L = L + L by omega, show 2 * H = H + H by omega]; exact k1) h1 (by omega) (by omega) (by omega) h2
  have k3 := k2.fopAdd hc h1 (by omega) h1 (by omega) h2 h2
  exact Bd.fopQuo (by rw [show 2 * L = L + L by omega, show 2 * H = H + H by omega]; exact k3) h1 (by omega) (by omega) (by omega) h2
theorem fl_c2 : fl 1073741824 = 1073741824 := by decide

theorem softer_any (a b c : Nat) (w : World) : Calls Try.prog 39 #[.float .f32 a, .float .f32 b, .float .f32 c] w fun e w' => ∃ r, e = .returned (.float .f32 r) ∧ r < 4294967296 ∧ fl r = sftF (fl a) (fl b) (fl c) ∧ ∃ n, w' = w.drewN n := by
  go_enter Try.func39, Try.ntmps39
  go_wp2
  go_ret
  exact ⟨_, rfl, fres_lt _ _ _ _, by rw [fl_fres, fl_fres, fl_fres, fl_fres, fl_c2]; rfl, _, rfl⟩

def blurX (bs : List Nat) (wd hi : Nat) (x y : Nat) : Nat := sftF (fl (bs.getD (ix ((x : Int) - 1) y wd hi) 0)) (fl (bs.getD (ix ((x : Int) + 1) y wd hi) 0)) (fl (bs.getD (ix x y wd hi) 0))
def blurY (bs : List Nat) (wd hi : Nat) (x y : Nat) : Nat := sftF (fl (bs.getD (ix x ((y : Int) - 1) wd hi) 0)) (fl (bs.getD (ix x ((y : Int) + 1) wd hi) 0)) (fl (bs.getD (ix x y wd hi) 0))

theorem blurX_gives {W0 : World} {pb wd hi : Nat} {v : Value} {bs : List Nat} (h : PicAt W0 pb wd hi v bs 26) (hw : 0 < wd) (hh : 0 < hi) (hw2 : wd ≤ 24) (hh2 : hi ≤ 24) :
    Gives2 W0 (.func (.func 38) #[] #[.pointer (some ⟨pb, 0, none⟩)]) wd hi (blurX bs wd hi) := by
  refine ⟨38, _, rfl, Try.call38, fun x y W hx hy hbW => ?_⟩
  have hp := h.below hbW
  have b1 : (x : Int) < 24 := by omega
  have b2 : (y : Int) < 24 := by omega
  show Calls _ _ #[.int .i64 x, .int .i64 y, .pointer (some ⟨pb, 0, none⟩)] _ _
  go_enter Try.func38, Try.ntmps38
  go_wp2_with fail
  refine (about_any _ pb wd hi v bs _ _ hw hh (by omega) (by omega) hp).mono ?_
  rintro e w' ⟨rfl, n1, rfl⟩
  go_wp2_with fail
  refine (about_any _ pb wd hi v bs _ _ hw hh (by omega) (by omega) (by exact (hp.drewN _))).mono ?_
  rintro e w' ⟨rfl, n2, rfl⟩
  go_wp2_with fail
  refine (about_any _ pb wd hi v bs _ _ hw hh (by omega) (by omega) (by exact (hp.drewN _))).mono ?_
  rintro e w' ⟨rfl, n3, rfl⟩
  go_wp2_with fail
  refine (softer_any _ _ _ _).mono ?_
  rintro e w' ⟨r, rfl, hr, hf, n4, rfl⟩
  go_wp2
  go_ret
  exact ⟨r, rfl, hr, hf, below_drewN (Below.refl _ _) _⟩

theorem blurY_gives {W0 : World} {pb wd hi : Nat} {v : Value} {bs : List Nat} (h : PicAt W0 pb wd hi v bs 26) (hw : 0 < wd) (hh : 0 < hi) (hw2 : wd ≤ 24) (hh2 : hi ≤ 24) :
    Gives2 W0 (.func (.func 40) #[] #[.pointer (some ⟨pb, 0, none⟩)]) wd hi (blurY bs wd hi) := by
  refine ⟨40, _, rfl, Try.call40, fun x y W hx hy hbW => ?_⟩
  have hp := h.below hbW
  have b1 : (x : Int) < 24 := by omega
  have b2 : (y : Int) < 24 := by omega
  show Calls _ _ #[.int .i64 x, .int .i64 y, .pointer (some ⟨pb, 0, none⟩)] _ _
  go_enter Try.func40, Try.ntmps40
  go_wp2_with fail
  refine (about_any _ pb wd hi v bs _ _ hw hh (by omega) (by omega) hp).mono ?_
  rintro e w' ⟨rfl, n1, rfl⟩
  go_wp2_with fail
  refine (about_any _ pb wd hi v bs _ _ hw hh (by omega) (by omega) (by exact (hp.drewN _))).mono ?_
  rintro e w' ⟨rfl, n2, rfl⟩
  go_wp2_with fail
  refine (about_any _ pb wd hi v bs _ _ hw hh (by omega) (by omega) (by exact (hp.drewN _))).mono ?_
  rintro e w' ⟨rfl, n3, rfl⟩
  go_wp2_with fail
  refine (softer_any _ _ _ _).mono ?_
  rintro e w' ⟨r, rfl, hr, hf, n4, rfl⟩
  go_wp2
  go_ret
  exact ⟨r, rfl, hr, hf, below_drewN (Below.refl _ _) _⟩

theorem self_gives {W0 : World} {pb wd hi : Nat} {v : Value} {bs : List Nat} (h : PicAt W0 pb wd hi v bs 26) (hw : 0 < wd) (hh : 0 < hi) (hw2 : wd ≤ 24) (hh2 : hi ≤ 24) :
    Gives2 W0 (.func (.func 36) #[] #[.pointer (some ⟨pb, 0, none⟩)]) wd hi (fun x y => fl (bs.getD (ix (x : Int) (y : Int) wd hi) 0)) := by
  refine gives_about (fun x y => x) (fun x y => y) h hw hh Try.call36 fun x y W hx hy hp hbW => ?_
  show Calls _ _ #[.int .i64 x, .int .i64 y, .pointer (some ⟨pb, 0, none⟩)] _ _
  go_enter Try.func36, Try.ntmps36
  go_wp2_with fail
  refine (about_any W pb wd hi v bs _ _ hw hh (by omega) (by omega) hp).mono ?_
  rintro e w' ⟨rfl, n, rfl⟩
  go_wp2
  go_ret
  exact ⟨rfl, n, rfl⟩

/-- A slice of words that lie between. -/
def PB (W : World) (q c N : Nat) (L H : Int) : Prop := ∃ bs, SlF W (.slice (some ⟨q, 0, none⟩) N c) bs ∧ bs.length = N ∧ (∀ b ∈ bs, Bd L H b) ∧ q < W.heap.size
theorem PB.below {W W' : World} {q c N : Nat} {L H : Int} (h : PB W q c N L H) (hb : Below W.heap.size W W') : PB W' q c N L H := by
  obtain ⟨bs, h1, h2, h3, h4⟩ := h
  exact ⟨bs, h1.below hb, h2, h3, Nat.lt_of_lt_of_le h4 hb.size⟩
theorem PB.set {W : World} {q c N ob i : Nat} {L H : Int} (h : PB W q c N L H) (hne : ob ≠ q) (v : Value) : PB (W.setCell ⟨ob, i, none⟩ v) q c N L H := by
  obtain ⟨bs, h1, h2, h3, h4⟩ := h
  exact ⟨bs, ⟨h1.1.grown (grown_setCell _ _ _) (.inr (by simpa [Value.ownBlock] using (Ne.symm hne))), h1.2⟩, h2, h3, by simpa using h4⟩
theorem bd_of_tab {bs : List Nat} {wd hi : Nat} {g : Nat → Nat → Nat} {L H : Int} (h : bs.map fl = tab (hi * wd) fun i => g (i % wd) (i / wd)) (hw : 0 < wd) (hg : ∀ x y, x < wd → y < hi → Bd L H (g x y)) : ∀ b ∈ bs, Bd L H b := by
  intro b hb
  have h1 : fl b ∈ bs.map fl := List.mem_map.2 ⟨b, hb, rfl⟩
  rw [h] at h1
  obtain ⟨i, hi_, e⟩ := List.mem_map.1 h1
  have hi2 := List.mem_range.1 hi_
  have k := hg (i % wd) (i / wd) (Nat.mod_lt _ hw) ((Nat.div_lt_iff_lt_mul hw).2 hi2)
  rw [e] at k
  have hn : nan32 b = false := by rw [← nan32_fl]; exact k.nan
  rw [fl_eq hn] at k
  exact k

/-- What a call that makes such a picture gives. -/
def MakesPB (w : World) (wd hi N : Nat) (L H : Int) (e : Ending) (w' : World) : Prop :=
  ∃ q c, e = .returned (.tuple #[.agg #[.int .i64 wd, .int .i64 hi, .slice (some ⟨q, 0, none⟩) N c], .bool true]) ∧ PB w' q c N L H ∧ w.heap.size ≤ q ∧ Below w.heap.size w w'

theorem remade_pb (w : World) (wd hi N : Nat) (sa : Option Addr) (c : Nat) (fv : Value) (g : Nat → Nat → Nat) (L H : Int) (hv : vPic wd hi N = true) (hf : Gives2 w fv wd hi g) (hg : ∀ x y, x < wd → y < hi → Bd L H (g x y)) :
    Calls Try.prog 33 #[.agg #[.int .i64 wd, .int .i64 hi, .slice sa N c], fv] w (MakesPB w wd hi N L H) := by
  obtain ⟨x1, x2, e1, e2, e3, b1, b2, b3, b4, b5⟩ := vPic_spec hv
  have hN : N = wd * hi := by rw [e3]; congr 1 <;> omega
  have hN0 : 0 < N := by rw [e3]; exact Nat.mul_pos b1 b3
  refine (remade_ok w wd hi N sa c fv g hv hf).mono ?_
  rintro e w2 ⟨a, cc, bs, rfl, hown, hcon, hb2⟩
  have hl : bs.length = N := by have := congrArg List.length hcon; rw [List.length_map, tab_length] at this; rw [this, hN, Nat.mul_comm]
  rw [hl] at hown
  obtain ⟨q, rfl⟩ := own_ptr hown (by omega)
  refine ⟨q, cc, by rw [hl], ⟨bs, ?_, hl, bd_of_tab hcon (by omega) hg, (hown.lt (k := q) rfl).2⟩, (hown.lt (k := q) rfl).1, hb2⟩
  have := hown.sl
  exact this

theorem PB.pic {W : World} {q c N pb wd hi : Nat} {L H : Int} (h : PB W q c N L H) (hx : Box3 W pb (.int .i64 wd) (.int .i64 hi) (.slice (some ⟨q, 0, none⟩) N c) 26) (hN : N = wd * hi) : ∃ bs, PicAt W pb wd hi (.slice (some ⟨q, 0, none⟩) N c) bs 26 ∧ (∀ b ∈ bs, Bd L H b) ∧ bs.length = N := by
  obtain ⟨bs, h1, h2, h3, _⟩ := h
  exact ⟨bs, ⟨hx, h1, by rw [h2, hN]⟩, h3, h2⟩
theorem bd_get {bs : List Nat} {L H : Int} (h : ∀ b ∈ bs, Bd L H b) {i : Nat} (hi : i < bs.length) : Bd L H (bs.getD i 0) ∧ fl (bs.getD i 0) = bs.getD i 0 := by
  have : Bd L H (bs.getD i 0) := by
    rw [List.getD_eq_getElem?_getD, List.getElem?_eq_getElem hi]; exact h _ (List.getElem_mem _)
  exact ⟨this, this.fl⟩

set_option maxHeartbeats 4000000 in
theorem blur_pb (w : World) (wd hi N q c n : Nat) (L H : Int) (hv : vPic wd hi N = true) (h : PB w q c N L H) (hn : n ≤ 8) (h1 : 0 ≤ L) (h2 : L ≤ H) (h3 : H ≤ 1000) :
    Calls Try.prog 10 #[.agg #[.int .i64 wd, .int .i64 hi, .slice (some ⟨q, 0, none⟩) N c], .int .i64 n] w (MakesPB w wd hi N L H) := by
  obtain ⟨x1, x2, e1, e2, e3, b1, b2, b3, b4, b5⟩ := vPic_spec hv
  have hN : N = wd * hi := by rw [e3]; congr 1 <;> omega
  have d1 : 0 < wd := by omega
  have d2 : 0 < hi := by omega
  have d3 : wd ≤ 24 := by omega
  have d4 : hi ≤ 24 := by omega
  have HN := Lib.hid hN
  clear e1 e2 e3 b1 b2 b3 b4 b5 hN
  have hin : (decide ((0 : Int) ≤ n) && decide ((n : Int) ≤ 8)) = true := by simp; omega
  have hb0 := below_two w (.cells #[.int .i64 wd, .int .i64 hi, .slice (some ⟨q, 0, none⟩) N c] 26) (.cells #[.int .i64 0, .int .i64 0, .slice none 0 0] 26)
  have hX := box_first w (.int .i64 wd) (.int .i64 hi) (.slice (some ⟨q, 0, none⟩) N c) 26 (.cells #[.int .i64 0, .int .i64 0, .slice none 0 0] 26)
  have hR := box_second w (.int .i64 0) (.int .i64 0) (.slice none 0 0) 26 (.cells #[.int .i64 wd, .int .i64 hi, .slice (some ⟨q, 0, none⟩) N c] 26)
  obtain ⟨bs, hP, hB, hl⟩ := (h.below hb0).pic hX HN.out
  have hg := self_gives hP d1 d2 d3 d4
  have hgb : ∀ x y, x < wd → y < hi → Bd L H ((fun x y => fl (bs.getD (ix (x : Int) (y : Int) wd hi) 0)) x y) := fun x y hx hy => by
    obtain ⟨k1, k2⟩ := bd_get hB (i := ix (x : Int) (y : Int) wd hi) (by rw [hl, HN.out]; exact ix_lt _ _ d1 d2)
    show Bd L H (fl _); rw [k2]; exact k1
  have K := Lib.hid (remade_pb _ wd hi N (some ⟨q, 0, none⟩) c _ _ L H hv hg hgb)
  have HB0 := Lib.hid hb0
  have HR := Lib.hid hR
  clear hg hgb hP hB hl hX h hb0 hR
  go_enter Try.func10, Try.ntmps10
  go_wp2_with fail
  refine (in_any _ _ _ _).mono ?_
  rw [hin]
  rintro e w1 ⟨rfl, rfl⟩
  clear hin
  go_wp2_with fail
  refine K.out.mono ?_
  rintro e w2 ⟨q2, c2, rfl, hp, hq2, hb2⟩
  have hbel := HB0.out.trans (hb2.mono HB0.out.size)
  have hRr := HR.out.below hb2
  have hq3 : w.heap.size + 2 ≤ q2 := by simpa using hq2
  have ha := alb1 w2 (.cells #[.int .i64 wd, .int .i64 hi, .slice (some ⟨q2, 0, none⟩) N c2] 26)
  have hO := box_last w2 (.int .i64 wd) (.int .i64 hi) (.slice (some ⟨q2, 0, none⟩) N c2) 26
  have hbel := hbel.trans (ha.mono hbel.size)
  have hRr := hRr.below ha
  have hpq := hp.below ha
  have hsz2 : w.heap.size + 2 ≤ w2.heap.size := by have := hb2.size; simpa using this
  have hne : q2 ≠ w2.heap.size := by obtain ⟨_, _, _, _, hlt⟩ := hp; omega
  have START := Lib.hid (And.intro hO (And.intro hpq (And.intro hne (And.intro hq3 (And.intro hbel hRr)))))
  have HSZ := Lib.hid hsz2
  clear hb2 hp ha hO hbel hRr hpq hne K HB0 HR hq2 hq3 hsz2
  go_wp2_with fail
  obtain ⟨ob, hob⟩ : ∃ ob, ob = w2.heap.size := ⟨_, rfl⟩
  have HOB := Lib.hid hob
  rw [← hob]
  clear hob
  go_loopw [8] (fun v8 wr => ∃ (i q c : Nat), v8 = .int .i64 i ∧ i ≤ n ∧ Box3 wr ob (.int .i64 wd) (.int .i64 hi) (.slice (some ⟨q, 0, none⟩) N c) 26 ∧ PB wr q c N L H ∧ q ≠ ob ∧ w.heap.size + 2 ≤ q ∧ Below w.heap.size w wr ∧ Box3 wr (w.heap.size + 1) (.int .i64 0) (.int .i64 0) (.slice none 0 0) 26) (fun v8 _ => n - (intOf v8).toNat)
  case atStart =>
    obtain ⟨g1, g2, g3, g6, g4, g5⟩ := START.out
    exact ⟨0, q2, c2, rfl, Nat.zero_le _, by rw [HOB.out]; exact g1, g2, by rw [HOB.out]; exact g3, g6, g4, g5⟩
  case round =>
    clear START
    obtain ⟨i, q, c, rfl, hi_, hO, hp, hqo, hqw, hbel, hRr⟩ := hrel
    obtain ⟨zO0, zO1, zO2, fO0, fO1, fO2⟩ := hO.cells
    by_cases hlt : i < n
    · have hlt2 : (i : Int) < (n : Int) := by omega
      have ha := alb1 wr (.cells #[.int .i64 wd, .int .i64 hi, .slice (some ⟨q, 0, none⟩) N c] 26)
      have hA := box_last wr (.int .i64 wd) (.int .i64 hi) (.slice (some ⟨q, 0, none⟩) N c) 26
      obtain ⟨bs, hP, hB, hl⟩ := (hp.below ha).pic hA HN.out
      have hgb : ∀ x y, x < wd → y < hi → Bd L H (blurX bs wd hi x y) := fun x y hx hy => by
        have k := fun X Y => bd_get hB (i := ix X Y wd hi) (by rw [hl, HN.out]; exact ix_lt _ _ d1 d2)
        unfold blurX
        rw [(k _ _).2, (k _ _).2, (k _ _).2]
        exact Bd.sft (k _ _).1 (k _ _).1 (k _ _).1 h1 h2 h3
      have K := Lib.hid (remade_pb _ wd hi N (some ⟨q, 0, none⟩) c _ _ L H hv (blurX_gives hP d1 d2 d3 d4) hgb)
      have HO := Lib.hid (hO.below ha)
      have HR := Lib.hid (hRr.below ha)
      have HBEL := Lib.hid (hbel.trans (ha.mono hbel.size))
      have hsz : w.heap.size ≤ wr.heap.size := hbel.size
      have hobl := hO.lt
      clear hP hB hl hgb hA ha hbel hRr hp hO
      go_wp2_with fail
      refine K.out.mono ?_
      rintro e w3 ⟨q3, c3, rfl, hp3, hq3, hb3⟩
      have hO := HO.out.below hb3
      have hRr := HR.out.below hb3
      have hbel := HBEL.out.trans (hb3.mono HBEL.out.size)
      clear K HO HR HBEL zO0 zO1 zO2 fO0 fO1 fO2 hb3
      have ha := alb1 w3 (.cells #[.int .i64 wd, .int .i64 hi, .slice (some ⟨q3, 0, none⟩) N c3] 26)
      have hA := box_last w3 (.int .i64 wd) (.int .i64 hi) (.slice (some ⟨q3, 0, none⟩) N c3) 26
      obtain ⟨bs, hP, hB, hl⟩ := (hp3.below ha).pic hA HN.out
      have hgb : ∀ x y, x < wd → y < hi → Bd L H (blurY bs wd hi x y) := fun x y hx hy => by
        have k := fun X Y => bd_get hB (i := ix X Y wd hi) (by rw [hl, HN.out]; exact ix_lt _ _ d1 d2)
        unfold blurY
        rw [(k _ _).2, (k _ _).2, (k _ _).2]
        exact Bd.sft (k _ _).1 (k _ _).1 (k _ _).1 h1 h2 h3
      have K := Lib.hid (remade_pb _ wd hi N (some ⟨q3, 0, none⟩) c3 _ _ L H hv (blurY_gives hP d1 d2 d3 d4) hgb)
      have HO := Lib.hid (hO.below ha)
      have HR := Lib.hid (hRr.below ha)
      have HBEL := Lib.hid (hbel.trans (ha.mono hbel.size))
      have hobl3 := hO.lt
      have hwsz := hbel.size
      clear hP hB hl hgb hA ha hbel hRr hO hp3
      go_wp2_with fail
      refine K.out.mono ?_
      rintro e w4 ⟨q4, c4, rfl, hp4, hq4, hb4⟩
      have hO := HO.out.below hb4
      have hRr := HR.out.below hb4
      have hbel := HBEL.out.trans (hb4.mono HBEL.out.size)
      have hne4 : q4 ≠ ob := by simp at hq4; omega
      have hq4w : w.heap.size + 2 ≤ q4 := by simp at hq4; have := hRr.lt; have := HR.out.lt; simp at this; omega
      clear K HO HR HBEL hb4 hq4 hq3
      obtain ⟨zO0, zO1, zO2, fO0, fO1, fO2⟩ := hO.cells
      have hobw : w.heap.size + 2 ≤ ob := by rw [HOB.out]; exact HSZ.out
      have HO := Lib.hid hO
      have HR := Lib.hid hRr
      have HBEL := Lib.hid hbel
      have HP4 := Lib.hid hp4
      clear hO hRr hbel hp4
      go_wp2
      go_roundw
      case rel =>
        refine ⟨i + 1, q4, c4, by go_num, by omega, ?_, ((HP4.out.set (Ne.symm hne4) _).set (Ne.symm hne4) _).set (Ne.symm hne4) _, hne4, hq4w, ((HBEL.out.setCell (by simp; omega) _).setCell (by simp; omega) _).setCell (by simp; omega) _, ?_⟩
        · have hb : BoxN w4 ob #[.int .i64 wd, .int .i64 hi, .slice (some ⟨q, 0, none⟩) N c] 26 := HO.out
          have := ((hb.set 0 (.int .i64 wd)).set 1 (.int .i64 hi)).set 2 (.slice (some ⟨q4, 0, none⟩) N c4)
          show BoxN _ ob #[.int .i64 wd, .int .i64 hi, .slice (some ⟨q4, 0, none⟩) N c4] 26
          simpa using this
        · exact ((HR.out.grown (grown_setCell _ _ _) (by simp; omega)).grown (grown_setCell _ _ _) (by simp; omega)).grown (grown_setCell _ _ _) (by simp; omega)
      case measure => simp [intOf]; omega
    · obtain rfl : n = i := by omega
      obtain ⟨d0, d1', d2', e0, e1', e2'⟩ := hRr.cells
      have HP := Lib.hid hp
      have HBEL := Lib.hid hbel
      have HR := Lib.hid hRr
      clear hp hbel hO hlt hRr
      go_wp2
      refine bodyPost_ret (v := .tuple #[.agg #[.int .i64 wd, .int .i64 hi, .slice (some ⟨q, 0, none⟩) N c], .bool true]) (by simp [results, Try.results10, go_sem, d0, d1', d2']) rfl ?_
      exact ⟨q, c, rfl, ((HP.out.set (by omega) _).set (by omega) _).set (by omega) _, by omega, ((HBEL.out.setCell (by simp) _).setCell (by simp) _).setCell (by simp) _⟩

end Go.Proofs.Ytialajgobpokmaa
