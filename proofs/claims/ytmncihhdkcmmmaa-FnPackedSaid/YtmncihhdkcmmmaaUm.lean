/- Greys of bytes and back. -/
import Derived.Test.YtmncihhdkcmmmaaUl
namespace Go.Proofs.Ytmncihhdkcmmmaa
open Go.RowKit
set_option maxRecDepth 100000
set_option linter.unusedVariables false
set_option linter.unusedSimpArgs false

theorem eq_of_flG {b z : Nat} (hz : nan32 z = false) (h : fl b = z) : b = z := by
  cases hn : nan32 b
  · rw [← fl_eq hn]; exact h
  · rw [← nan32_fl, h, hz] at hn; cases hn
theorem gW_nan : ∀ b : Nat, b < 256 → nan32 (gW b) = false := by
  have h : ∀ b : Fin 256, nan32 (gW b.val) = false := by decide +kernel
  intro b hb; exact h ⟨b, hb⟩

set_option maxHeartbeats 1000000 in
theorem greyBytes_any (w : World) (wd hi n q c : Nat) (l : List UInt8) (hv : vPic wd hi n = true) (hl : l.length = n) (hn : n ≤ 256) (h : SlF w (.slice (some ⟨q, 0, none⟩) n c) (l.map fun b => gW b.toNat)) :
    Calls Try.prog 25 #[.agg #[.int .i64 wd, .int .i64 hi, .slice (some ⟨q, 0, none⟩) n c]] w fun e w' => e = .returned (.tuple #[.string ⟨l.toArray⟩, .bool true]) ∧ Below w.heap.size w w' := by
  obtain ⟨i0, hi0, hz0, hz1, hz2⟩ := info_parts info_u8
  have hb0 : Below w.heap.size w (w.alloc (.cells #[.int .i64 wd, .int .i64 hi, .slice (some ⟨q, 0, none⟩) n c] 41)) := (Below.refl _ _).alloc (Nat.le_refl _) _
  have hX := box_last w (.int .i64 wd) (.int .i64 hi) (.slice (some ⟨q, 0, none⟩) n c) 41
  have HX := Lib.hid hX
  have HB := Lib.hid hb0
  have HS := Lib.hid (h.below hb0)
  have hn1 : n ≤ 9223372036854775807 := by omega
  have hcap : n ≤ c ∧ c ≤ 9223372036854775807 := by
    obtain ⟨a', c', e, h1, h2, h3⟩ := h.1
    simp only [Value.slice.injEq, List.length_map] at e h1
    omega
  clear hX hb0 h
  go_enter Try.func25, Try.ntmps25
  go_wp2_with fail
  refine (validPicture_any _ _ _ _ _ hn1 _).mono ?_
  rw [hv]
  rintro e w1 ⟨rfl, hb1⟩
  obtain ⟨c0, c1, c2, -, -, -⟩ := (HX.out.below hb1).cells
  have HS1 := Lib.hid (HS.out.below hb1)
  have HBB := Lib.hid (HB.out.trans (hb1.mono HB.out.size))
  have HSU := Lib.hid (OwnU.start w1 w1.heap.size (Nat.le_refl _))
  have hbU : Below w1.heap.size w1 (w1.alloc (.cells #[] 5)) := (Below.refl _ _).alloc (Nat.le_refl _) _
  have HBU := Lib.hid hbU
  obtain ⟨y0, y1, y2, -, -, -⟩ := ((HX.out.below hb1).below hbU).cells
  clear hb1 hbU
  go_wp2_with fail
  clear c0 c1 c2 y0 y1 y2
  go_loopw [4, 14] (fun v4 v14 wr => ∃ (i : Nat) (v : Value), v14 = .int .i64 i ∧ i ≤ n ∧ v = v4 ∧ OwnU wr w1.heap.size v (l.take i) ∧ Below w1.heap.size w1 wr) (fun _ v14 _ => n - (intOf v14).toNat)
  case atStart => exact ⟨0, _, rfl, Nat.zero_le _, rfl, by rw [List.take_zero]; exact HSU.out, HBU.out⟩
  case round =>
    clear HSU HBU
    obtain ⟨i, v, rfl, hi_, rfl, hown, hbel⟩ := hrel
    have HO := Lib.hid hown
    have HBE := Lib.hid hbel
    by_cases hlt : i < n
    · have hil : i < l.length := by omega
      have kc := ((HS1.out.below hbel).cellAt i (by rw [List.length_map]; exact hil)).1
      rw [Nat.zero_add, List.getD_eq_getElem?_getD, List.getElem?_map, List.getElem?_eq_getElem hil, Option.map_some, Option.getD_some] at kc
      obtain ⟨b, hb⟩ : ∃ b, b = l[i] := ⟨_, rfl⟩
      rw [← hb] at kc
      have htk : l.take (i + 1) = l.take i ++ [b] := by rw [List.take_add_one, List.getElem?_eq_getElem hil, hb]; rfl
      have htl : (l.take i).length = i := by rw [List.length_take]; omega
      have HTK := Lib.hid htk
      have hb2 : b.toNat < 256 := UInt8.toNat_lt _
      have hiI : (i : Int) < (n : Int) := by omega
      have KB := Lib.hid (fun W => byteOf_any b.toNat hb2 W)
      generalize gW b.toNat = g at *
      clear htk hown hbel hb
      go_wp2_with fail
      refine (KB.out _).mono ?_
      rintro e w2 ⟨rfl, j, hw2⟩
      have own2 : w2.ownsRow w1.heap.size 5 1 v i (uCells (l.take i)) := by
        have := HO.out.below (below_drewN (Below.refl wr.heap.size wr) j)
        unfold OwnU at this
        rw [htl] at this
        first | exact this | (rw [hw2]; exact this)
      have hb3 : Below w1.heap.size w1 w2 := by first | exact below_drewN HBE.out j | (rw [hw2]; exact below_drewN HBE.out j)
      have HO2 := Lib.hid own2
      have HB3 := Lib.hid hb3
      have hs3 := hb3.size
      clear hw2 hb3
      go_wp2_with (at_builtin; refine wpList_append_lies _ (by rfl) _ _ _ (by rfl) w1.heap.size 5 i0 _ 1 1 Try.underlying22 hi0 hz0 hz1 hz2 rfl (by omega) v i _ (by rfl) (World.ownsRow.alloc own2 _) ⟨w2.heap.size, 0, none⟩ 1 1 [.int .u8 (b.toNat : Int)] (by rfl) (by rfl) (cell_one_new _ _ _) (by simp [Value.oneCell']) (by omega) (by unfold maxLen; omega) (by omega) (by simp; omega) (w2.heap.size + 1) (by simp) ?_; intro g2 cap2 w4 hown2 hgrow hat hlt2)
      go_roundw
      case rel =>
        refine ⟨i + 1, .slice (some ⟨g2, 0, none⟩) (i + 1) cap2, by go_num, by omega, rfl, ?_, ?_⟩
        · unfold OwnU
          rw [HTK.out, List.length_append, htl]
          have e : uCells (l.take i ++ [b]) = uCells (l.take i) ++ [.int .u8 (b.toNat : Int)] := by unfold uCells; rw [List.map_append]; rfl
          rw [e]
          exact hown2
        · exact (HB3.out.alloc HB3.out.size _).grown hgrow (by have := HB3.out.size; simp; omega) (fun k hk => (World.ownsRow.lt HO2.out k hk).1)
      case measure => simp [intOf]; omega
    · obtain rfl : n = i := by omega
      have hstr := hown.str
      rw [List.take_of_length_le (by omega)] at hstr
      clear hown hbel
      go_wp2_with fail
      go_ret2
      exact ⟨rfl, HBB.out.trans (HBE.out.mono HBB.out.size)⟩

/-- A picture of the greys of bytes. -/
def MakesG (w : World) (wd hi n : Nat) (l : List UInt8) (e : Ending) (w' : World) : Prop :=
  ∃ q c, e = .returned (.tuple #[.agg #[.int .i64 wd, .int .i64 hi, .slice (some ⟨q, 0, none⟩) n c], .bool true]) ∧ SlF w' (.slice (some ⟨q, 0, none⟩) n c) (l.map fun b => gW b.toNat) ∧ Below w.heap.size w w'

set_option maxHeartbeats 2000000 in
theorem greyPicture_any (w : World) (wd hi n : Nat) (l : List UInt8) (hs : szOk wd hi = true) (hN : n = wd * hi) (h1 : 1 ≤ wd) (h2 : wd ≤ 24) (h3 : 1 ≤ hi) (h4 : hi ≤ 24) (hn : n ≤ 256) (hl : l.length = n) :
    Calls Try.prog 24 #[.string ⟨l.toArray⟩, .int .i64 wd, .int .i64 hi] w (MakesG w wd hi n l) := by
  obtain ⟨s, hsdef⟩ : ∃ s : ByteArray, s = ⟨l.toArray⟩ := ⟨_, rfl⟩
  have hsz : s.size = n := by rw [hsdef]; show l.toArray.size = _; rw [List.size_toArray, hl]
  have HBY := Lib.hid (fun i => (show byteN s i = (l.getD i 0).toNat by rw [hsdef]; rfl))
  rw [← hsdef]
  clear hsdef
  obtain ⟨W0, hW0⟩ : ∃ W0, W0 = ((w.alloc (.cells #[.string s] 9)).alloc (.cells #[.int .i64 wd] 2)).alloc (.cells #[.int .i64 0, .int .i64 0, .slice none 0 0] 41) := ⟨_, rfl⟩
  have hb0 : Below w.heap.size w W0 := by rw [hW0]; exact (below_two w _ _).alloc (by simp; omega) _
  have hX : BoxN W0 w.heap.size #[.string s] 9 := by rw [hW0]; exact (BoxN.first w #[.string s] 9 _).below ((Below.refl _ _).alloc (Nat.le_refl _) _)
  have hP : BoxN W0 (w.heap.size + 1) #[.int .i64 wd] 2 := by rw [hW0]; exact (BoxN.second w #[.int .i64 wd] 2 _).below ((Below.refl _ _).alloc (Nat.le_refl _) _)
  have hR : Box3 W0 (w.heap.size + 2) (.int .i64 0) (.int .i64 0) (.slice none 0 0) 41 := by rw [hW0]; have := box_last ((w.alloc (.cells #[.string s] 9)).alloc (.cells #[.int .i64 wd] 2)) (.int .i64 0) (.int .i64 0) (.slice none 0 0) 41; simpa using this
  have hsW : W0.heap.size = w.heap.size + 3 := by rw [hW0]; simp
  have em : (wd : Int) * (hi : Int) = (n : Int) := by rw [hN, Int.natCast_mul]
  have HN := Lib.hid hN
  have hg : Gives2 W0 (.func (.func 49) #[] #[.pointer (some ⟨w.heap.size, 0, none⟩), .pointer (some ⟨w.heap.size + 1, 0, none⟩)]) wd hi (fun x y => gW (l.getD (x + wd * y) 0).toNat) := by
    refine ⟨49, _, rfl, Try.call49, fun x y W hx hy hbW => ?_⟩
    have hlt2 : x + wd * y < n := by
      rw [HN.out]
      calc x + wd * y < wd + wd * y := by omega
        _ = wd * (y + 1) := by rw [Nat.mul_succ]; omega
        _ ≤ wd * hi := Nat.mul_le_mul_left _ hy
    have c0 : W.cell? ⟨w.heap.size, 0, none⟩ = some (.string s) := (hX.below hbW).cell 0
    have c1 : W.cell? ⟨w.heap.size + 1, 0, none⟩ = some (.int .i64 wd) := (hP.below hbW).cell 0
    have hby := HBY.out (x + wd * y)
    obtain ⟨b, hb⟩ : ∃ b, b = (l.getD (x + wd * y) 0).toNat := ⟨_, rfl⟩
    rw [← hb] at hby
    show Calls _ _ #[.int .i64 x, .int .i64 y, .pointer (some ⟨w.heap.size, 0, none⟩), .pointer (some ⟨w.heap.size + 1, 0, none⟩)] _ fun e w' => ∃ r, e = .returned (.float .f32 r) ∧ r < 4294967296 ∧ fl r = gW (l.getD (x + wd * y) 0).toNat ∧ Below W.heap.size W w'
    rw [← hb]
    have hb2 : b < 256 := by rw [hb]; exact UInt8.toNat_lt _
    have G := grey_ok hb2
    have a1 := fres_some G.quo
    have a2 := fdr_some G.quo
    have HF := Lib.hid (And.intro G.lt G.fl_)
    generalize gW b = g at *
    have hwy : wd * y ≤ 24 * 24 := Nat.mul_le_mul h2 (by omega)
    obtain ⟨P, hPP⟩ : ∃ P, P = wd * y := ⟨_, rfl⟩
    rw [← hPP] at hby hlt2 hwy
    have em2 : (wd : Int) * (y : Int) = (P : Int) := by rw [hPP, Int.natCast_mul]
    have hidx : ∀ W', (Instr.index 9 (.string s) (.int .i64 ((x : Int) + (P : Int)))).run Try.prog W' = .ok (.int .u8 (b : Int)) W' := fun W' => by
      rw [idx_at W' s _ (by omega) (by omega), show ((x : Int) + (P : Int)).toNat = x + P by omega, hby]
    have hx24 : (x : Int) < 24 := by omega
    have hd0 : ∀ W : World, W.drewN 0 = W := fun _ => rfl
    clear G hb hPP hby hX hP hR hb0 hW0 em
    go_enter Try.func49, Try.ntmps49
    go_wp2
    go_ret
    exact ⟨_, rfl, HF.out.1, HF.out.2, Below.refl _ _⟩
  have KG := Lib.hid (made_any W0 wd hi _ _ h2 h4 hg)
  have HB := Lib.hid hb0
  have HR := Lib.hid hR
  have HW0 := Lib.hid hW0
  have c0 : W0.cell? ⟨w.heap.size, 0, none⟩ = some (.string s) := hX.cell 0
  have c1 : W0.cell? ⟨w.heap.size + 1, 0, none⟩ = some (.int .i64 wd) := hP.cell 0
  clear hg hb0 hX hP hR hW0 hN
  go_enter Try.func24, Try.ntmps24
  go_wp2_with fail
  refine (sizeOk_any _ _ _).mono ?_
  rw [hs]
  rintro e w' ⟨rfl, hw'⟩
  rw [← HW0.out] at hw'
  subst hw'
  go_wp2_with fail
  refine KG.out.mono ?_
  rintro e w4 ⟨a, cc, bs', rfl, hown, hcon, hb4⟩
  have hbs : bs' = l.map fun b => gW b.toNat := by
    have hl' : bs'.length = n := by have := congrArg List.length hcon; rw [List.length_map, tab_length, Nat.mul_comm, ← HN.out] at this; exact this
    apply List.ext_getElem
    · rw [hl', List.length_map, hl]
    · intro i p1 p2
      have hi_ : i < hi * wd := by rw [Nat.mul_comm, ← HN.out]; omega
      have e1 : fl bs'[i] = gW (l.getD i 0).toNat := by
        have e2 := tab_get (hi * wd) (fun i => (fun x y => gW (l.getD (x + wd * y) 0).toNat) (i % wd) (i / wd)) i (by rw [tab_length]; exact hi_)
        have e3 : (bs'.map fl)[i]'(by rw [List.length_map]; exact p1) = fl bs'[i] := List.getElem_map ..
        rw [← e3]
        simp only [hcon]
        rw [e2]
        show gW (l.getD (i % wd + wd * (i / wd)) 0).toNat = _
        rw [Nat.mod_add_div]
      rw [List.getElem_map]
      have e4 : (l.getD i 0) = l[i]'(by rw [hl, ← hl']; exact p1) := by rw [List.getD_eq_getElem?_getD, List.getElem?_eq_getElem (by rw [hl, ← hl']; exact p1)]; rfl
      rw [e4] at e1
      exact eq_of_flG (gW_nan _ (UInt8.toNat_lt _)) e1
  have hl' : bs'.length = n := by rw [hbs, List.length_map, hl]
  have hn1 : 1 ≤ n := by rw [HN.out]; exact Nat.mul_pos h1 h3
  obtain ⟨q, rfl⟩ : ∃ q, a = some ⟨q, 0, none⟩ := by
    rcases hown.form with ⟨_, h2⟩ | ⟨q, cap, h1, _⟩
    · rw [h2] at hl'; simp at hl'; omega
    · injection h1 with e1; exact ⟨q, e1⟩
  rw [hl'] at hown ⊢
  obtain ⟨r0, r1, r2, g0, g1, g2⟩ := (HR.out.below hb4).cells
  have hRl := (HR.out.below hb4).lt
  have hq := (hown.lt (k := q) rfl).1
  have HO := Lib.hid (And.intro hown (And.intro hbs (HB.out.trans (hb4.mono HB.out.size))))
  clear hown hbs hb4 hcon c0 c1
  go_wp2_with fail
  refine bodyPost_ret (v := .tuple #[.agg #[.int .i64 wd, .int .i64 hi, .slice (some ⟨q, 0, none⟩) n cc], .bool true]) (by simp [results, Try.results24, go_sem, r0, r1, r2, hRl]) rfl ?_
  obtain ⟨ho, hbs, hb⟩ := HO.out
  have ho2 := (((ho.set (by show w.heap.size + 2 < _; omega) (.int .i64 wd) (a := ⟨w.heap.size + 2, 0, none⟩)).set (by show w.heap.size + 2 < _; omega) (.int .i64 hi) (a := ⟨w.heap.size + 2, 1, none⟩)).set (by show w.heap.size + 2 < _; omega) (.slice (some ⟨q, 0, none⟩) n cc) (a := ⟨w.heap.size + 2, 2, none⟩)).sl
  rw [hbs] at ho2
  exact ⟨q, cc, rfl, ho2, ((hb.setCell (by show w.heap.size ≤ w.heap.size + 2; omega) _).setCell (by show w.heap.size ≤ w.heap.size + 2; omega) _).setCell (by show w.heap.size ≤ w.heap.size + 2; omega) _⟩

end Go.Proofs.Ytmncihhdkcmmmaa
