/- A line that a law of journals draws. -/
import Derived.Test.YtmcmcppleikajaaDoorCc
import Derived.Test.YtmcmcppleikajaaDoorCa
import Derived.Test.YtmcmcppleikajaaDoorAq
import Derived.Deep.RegionHeld3
import Derived.Deep.Cut
namespace Go.Proofs.YtmcmcppleikajaaDoor
open Go.RowKit
set_option maxRecDepth 100000
set_option linter.unusedVariables false
set_option linter.unusedSimpArgs false

/-- A short text without a newline. -/
def LineB (n : Nat) (s : ByteArray) : Prop := s.size ≤ n ∧ ∀ b ∈ s.data.toList, b ≠ 10
theorem LineB.app {n m : Nat} {s t : ByteArray} (h : LineB n s) (k : LineB m t) : LineB (n + m) (s ++ t) :=
  ⟨by rw [ByteArray.size_append]; have := h.1; have := k.1; omega, fun b hb => by
    rw [ba_appT] at hb
    rcases List.mem_append.1 hb with hb | hb
    · exact h.2 b hb
    · exact k.2 b hb⟩
theorem LineB.mono {n m : Nat} {s : ByteArray} (h : LineB n s) (hm : n ≤ m) : LineB m s := ⟨Nat.le_trans h.1 hm, h.2⟩
theorem LineB.of {n : Nat} {l : List UInt8} (h1 : l.length ≤ n) (h2 : ∀ b ∈ l, b ≠ 10) : LineB n ⟨l.toArray⟩ := ⟨by simpa [ByteArray.size] using h1, by simpa using h2⟩
theorem lineB_const {n : Nat} {s : ByteArray} (h : (decide (s.size ≤ n) && s.data.toList.all (· != 10)) = true) : LineB n s := by
  rw [Bool.and_eq_true, decide_eq_true_eq, List.all_eq_true] at h
  exact ⟨h.1, fun b hb => by simpa using h.2 b hb⟩
theorem lineB_dec {n : Nat} (h : n < 100) : LineB 2 ⟨(Lib.decDigits n).toArray⟩ := LineB.of (decDigits_len100 h) (fun b hb => (digit_byte n b hb).1)
theorem hexC_nl : ∀ d : Nat, d < 16 → hexC d ≠ 10 := by decide
theorem hexL_nl (z : Nat) : ∀ b ∈ hexL z, b ≠ 10 := by
  intro b hb
  unfold hexL hexN at hb
  obtain ⟨i, _, rfl⟩ := List.mem_map.1 hb
  exact hexC_nl _ (Nat.mod_lt _ (by decide))
theorem lineB_hex (z : Nat) : LineB 8 ⟨(hexL z).toArray⟩ := LineB.of (Nat.le_of_eq (hexL_len z)) (hexL_nl z)
theorem commaL_nl {ps : List (List UInt8)} (h : ∀ p ∈ ps, ∀ b ∈ p, b ≠ 10) : ∀ b ∈ commaL ps, b ≠ 10 := by
  intro b hb
  cases ps with
  | nil =>
    have h0 : (commaL []).all (· != 10) = true := by decide
    rw [List.all_eq_true] at h0
    simpa using h0 b hb
  | cons p ps =>
    unfold commaL at hb
    rcases List.mem_append.1 hb with hb | hb
    · exact h p (List.mem_cons_self ..) b hb
    · obtain ⟨q, hq, hb⟩ := List.mem_flatMap.1 hb
      rcases List.mem_cons.1 hb with rfl | hb
      · decide
      · exact h q (List.mem_cons_of_mem _ hq) b hb
theorem lineB_txt {ns bs : List Nat} (h1 : ∀ n ∈ ns, n < 100) (h2 : ns.length ≤ 3) (h3 : bs.length ≤ 24) : LineB 240 ⟨(txtL ns bs).toArray⟩ := by
  refine LineB.of ?_ ?_
  · unfold txtL
    have := lstT_le h1
    have := numT_le bs
    simp only [List.length_append, List.length_cons]
    omega
  · intro b hb
    unfold txtL at hb
    rcases List.mem_append.1 hb with hb | hb
    · refine commaL_nl (fun p hp => ?_) b hb
      unfold decs at hp
      obtain ⟨n, hn, rfl⟩ := List.mem_map.1 hp
      exact fun b hb => (digit_byte n b hb).1
    · rcases List.mem_cons.1 hb with rfl | hb
      · decide
      · refine commaL_nl (fun p hp => ?_) b hb
        obtain ⟨n, hn, rfl⟩ := List.mem_map.1 hp
        exact hexL_nl _
theorem LitN.made2 (W : World) (x y : Nat) (hx : x < 100) (hy : y < 100) : LitN (W.alloc (.cells #[.int .i64 (x : Int), .int .i64 (y : Int)] 2)) W.heap.size [x, y] := by
  refine ⟨by simp, ?_, ?_, by simp, by simp⟩
  · intro i hi
    have hbx := BoxN.last W #[.int .i64 (x : Int), .int .i64 (y : Int)] 2
    match i, hi with
    | 0, _ => exact hbx.cell 0
    | 1, _ => exact hbx.cell 1
  · intro n hn
    simp at hn
    rcases hn with rfl | rfl
    · exact hx
    · exact hy
theorem row_strings (w : World) (T : List ByteArray) (t : TypeId) (i : Nat) (h : i < T.length) : (w.alloc (.cells (T.map Value.string).toArray t)).cell? ⟨w.heap.size, i, none⟩ = some (.string (T.getD i ⟨#[]⟩)) := by
  have hb : BoxN (w.alloc (.cells (T.map Value.string).toArray t)) w.heap.size (T.map Value.string).toArray t := BoxN.last w _ _
  rw [hb.cell i]
  simp [List.getElem?_map, List.getD_eq_getElem?_getD, List.getElem?_eq_getElem h]
def okT (T : List ByteArray) : Bool := T.all fun s => decide (s.size ≤ 60) && s.data.toList.all (· != 10)
theorem textL_any (w : World) {L : Nat} (sb U n c : Nat) (T : List ByteArray) (t : TypeId) (hn : T.length = n) (h1 : 1 ≤ n) (h2 : n ≤ 200) (hT : okT T = true) (hs : SrcOk w L sb U) (hU : U < 4611686018427387000) :
    Calls Tryd.prog 25 #[.pointer (some ⟨sb, 0, none⟩), .slice (some ⟨w.heap.size, 0, none⟩) n c] (w.alloc (.cells (T.map Value.string).toArray t)) fun e w' => ∃ s, e = .returned (.string s) ∧ LineB 60 s ∧ Drew L sb (U + 2) w w' := by
  have hb := alb_k w (.cells (T.map Value.string).toArray t)
  have hlt := hs.lt
  refine (text_any _ sb U w.heap.size n c (fun i => T.getD i ⟨#[]⟩) h1 h2 (fun i hi => row_strings w T t i (by omega)) (by omega) (hs.below hb) hU).mono ?_
  rintro e w' ⟨k, hk, rfl, hd⟩
  refine ⟨_, rfl, ?_, hd.ok, grown_trans (grown_below hb _) hd.grown⟩
  unfold okT at hT
  rw [List.all_eq_true] at hT
  refine lineB_const (hT _ ?_)
  rw [List.getD_eq_getElem?_getD, List.getElem?_eq_getElem (by omega)]
  exact List.getElem_mem ..
def hfw (k : Nat) : Nat := (floatBits .quo .f32 (floatOfInt .f32 k) 1073741824).getD 0
theorem hfw_some : ∀ k : Nat, k < 5 → floatBits .quo .f32 (floatOfInt .f32 k) 1073741824 = some (hfw k) := by
  have h : ∀ k : Fin 5, (floatBits .quo .f32 (floatOfInt .f32 (k.val : Int)) 1073741824) = some (hfw k.val) := by decide +kernel
  intro k hk; exact h ⟨k, by omega⟩
theorem hfw_lt : ∀ k : Nat, k < 5 → hfw k < 4294967296 := by
  have h : ∀ k : Fin 5, hfw k.val < 4294967296 := by decide +kernel
  intro k hk; exact h ⟨k, by omega⟩
abbrev txt0 : List ByteArray := [⟨#[]⟩, ⟨#[119, 104, 97, 116]⟩, ⟨#[112, 97, 105, 114, 32, 49, 44, 49, 58, 48, 48, 48, 48, 48, 48, 48, 48, 32, 50, 44, 49, 58, 48, 48, 48, 48, 48, 48, 48, 48, 44, 48, 48, 48, 48, 48, 48, 48, 48]⟩, ⟨#[112, 97, 105, 114, 32, 120, 32, 121]⟩, ⟨#[119, 105, 110, 110, 101, 114, 115, 32, 48]⟩, ⟨#[119, 105, 110, 110, 101, 114, 115, 32, 57]⟩, ⟨#[98, 111, 120, 101, 100, 32, 50, 32, 52]⟩, ⟨#[114, 97, 110, 107, 115, 32, 50, 32, 48]⟩, ⟨#[99, 104, 101, 99, 107, 115, 32, 50, 32, 110, 111, 110, 101]⟩, ⟨#[108, 101, 118, 101, 108, 115, 32, 50, 32, 53]⟩, ⟨#[99, 111, 115, 116, 115, 32, 120]⟩, ⟨#[109, 101, 100, 105, 97, 110, 32, 45, 49]⟩, ⟨#[103, 117, 105, 100, 101, 100, 32, 49, 32, 120]⟩, ⟨#[100, 114, 111, 112, 32, 49, 32, 48, 48, 48, 48, 48, 48, 48, 48]⟩, ⟨#[97, 116, 32, 50, 52, 32, 48]⟩, ⟨#[104, 111, 108, 101, 115, 32, 110, 111, 119]⟩, ⟨#[115, 104, 111, 119, 32]⟩]
abbrev txt1 : List ByteArray := [⟨#[119, 105, 110, 110, 101, 114, 115, 32]⟩, ⟨#[115, 104, 97, 114, 112, 32]⟩, ⟨#[99, 111, 115, 116, 115, 32]⟩]
abbrev txt2 : List ByteArray := [⟨#[98, 111, 120, 101, 100, 32]⟩, ⟨#[114, 97, 110, 107, 115, 32]⟩, ⟨#[108, 101, 118, 101, 108, 115, 32]⟩, ⟨#[97, 116, 32]⟩]
abbrev txt3 : List ByteArray := [⟨#[115, 104, 111, 119]⟩, ⟨#[114, 111, 119, 115]⟩, ⟨#[102, 105, 108, 108]⟩, ⟨#[104, 111, 108, 101, 115]⟩, ⟨#[109, 101, 97, 110]⟩, ⟨#[101, 114, 114, 111, 114]⟩, ⟨#[117, 110, 115, 101, 101, 110]⟩, ⟨#[109, 105, 114, 114, 111, 114]⟩]

/-- A line that is drawn. -/
def DrawsLine (L sb U : Nat) (w : World) (e : Ending) (w' : World) : Prop := ∃ s, e = .returned (.string s) ∧ LineB 600 s ∧ Drew L sb U w w'

set_option maxHeartbeats 4000000 in
theorem l08DrawLine_any (w : World) {L : Nat} (sb U : Nat) (dp : Option Addr) (hs : SrcOk w L sb U) (hL : L ≤ w.heap.size) (hU : U < 4611686018426000000) :
    Calls Tryd.prog 12 #[.pointer (some ⟨sb, 0, none⟩), .pointer dp] w (DrawsLine L sb (U + 5000) w) := by
  have hslt := hs.lt
  have KD := Lib.hid (fun W m (hm : m < 100) => (show Calls Tryd.prog 23 #[.int .i64 (m : Nat)] W fun e w' => ∃ s, e = .returned (.string s) ∧ LineB 2 s ∧ Below W.heap.size W w' from (s01Dec_any W m (Nat.lt_trans hm (by decide))).mono fun e w' ⟨h1, h2⟩ => ⟨_, h1, lineB_dec hm, h2⟩))
  have KX := Lib.hid (fun W b (hb : b < 4294967296) => (show Calls Tryd.prog 24 #[.float .f32 b] W fun e w' => ∃ s, e = .returned (.string s) ∧ LineB 8 s ∧ Below W.heap.size W w' from (s01Hex_any W b hb).mono fun e w' ⟨h1, h2⟩ => ⟨_, h1, lineB_hex _, h2⟩))
  go_enter Tryd.func12, Tryd.ntmps12
  go_wp2_with fail
  refine (pick_any _ _ _ 4 (by omega) (by omega) hs (by omega)).mono ?_
  rintro e w1 ⟨nz, rfl, n0, n1, hd1⟩
  obtain ⟨n, hn⟩ : ∃ n : Nat, (1 : Int) + nz = (n : Int) := ⟨(1 + nz).toNat, by omega⟩
  have hn100 : n < 100 := by omega
  have H1 := Lib.hid hd1
  clear n0 n1 hd1 hs
  go_wp2_with fail
  refine (KD.out _ n hn100).mono ?_
  rintro e w2 ⟨sn, rfl, hsn, hb2⟩
  have H2 := Lib.hid (And.intro hsn (H1.out.below hb2))
  have hok2 := H2.out.2.ok
  clear hsn hb2 hn hn100
  go_wp2_with fail
  refine (pick_any _ _ _ 3 (by omega) (by omega) hok2 (by omega)).mono ?_
  rintro e w3 ⟨kz, rfl, k0, k1, hd3⟩
  obtain ⟨k, rfl⟩ := Int.eq_ofNat_of_zero_le k0
  have hk100 : k < 100 := by omega
  have H3 := Lib.hid (H2.out.2.trans hd3)
  clear k0 k1 hd3 hok2
  go_wp2_with fail
  refine (KD.out _ k hk100).mono ?_
  rintro e w4 ⟨sk, rfl, hsk, hb4⟩
  have H4 := Lib.hid (And.intro hsk (H3.out.below hb4))
  have hok4 := H4.out.2.ok
  clear hsk hb4 hk100
  go_wp2_with fail
  refine (pick_any _ _ _ 5 (by omega) (by omega) hok4 (by omega)).mono ?_
  rintro e w5 ⟨xz, rfl, x0, x1, hd5⟩
  obtain ⟨x, rfl⟩ := Int.eq_ofNat_of_zero_le x0
  have hx5 : x < 5 := by omega
  have p1 := fres_some (hfw_some x hx5)
  have p0 := fdr_some (hfw_some x hx5)
  have hxl := hfw_lt x hx5
  have H5 := Lib.hid (H4.out.2.trans hd5)
  have hd0 : ∀ w : World, w.drewN 0 = w := fun _ => rfl
  clear x0 x1 hd5 hok4
  go_wp2_with fail
  refine (KX.out _ _ hxl).mono ?_
  rintro e w6 ⟨sx, rfl, hsx, hb6⟩
  have H6 := Lib.hid (And.intro hsx (H5.out.below hb6))
  have hok6 := H6.out.2.ok
  clear hsx hb6 hxl p1 p0 hx5
  go_wp2_with fail
  refine (pick_any _ _ _ 8 (by omega) (by omega) hok6 (by omega)).mono ?_
  rintro e w7 ⟨jz, rfl, j0, j1, hd7⟩
  have H7 := Lib.hid (H6.out.2.trans hd7)
  have hok7 := H7.out.ok
  clear hd7 hok6
  have q1 : sn.size ≤ 2 := H2.out.1.1
  have q2 : sk.size ≤ 2 := H4.out.1.1
  have q3 : sx.size ≤ 8 := H6.out.1.1
  rcases (by omega : jz = 0 ∨ jz = 1 ∨ jz = 2 ∨ jz = 3 ∨ jz = 4 ∨ jz = 5 ∨ jz = 6 ∨ jz = 7) with rfl | rfl | rfl | rfl | rfl | rfl | rfl | rfl
  · go_wp2_with fail
    refine (textL_any w7 sb _ 17 17 txt0 9 rfl (by decide) (by decide) (by decide +kernel) hok7 (by omega)).mono ?_
    rintro e w8 ⟨s, rfl, hs8, hd8⟩
    have H8 := Lib.hid (And.intro hs8 (H7.out.trans hd8))
    clear hs8 hd8 hok7
    go_wp2_with fail
    go_ret
    exact ⟨s, rfl, H8.out.1.mono (by decide), H8.out.2.mono (by omega)⟩
  · have KP := Lib.hid (l02DrawPair_any w7 sb _ hok7 (by have := H7.out.grown.size; omega) (by omega))
    clear hok7
    go_wp2_with fail
    refine KP.out.mono ?_
    rintro e w8 ⟨wd, hi, N, a1, c1, a2, c2, bs1, bs2, rfl, hN, v1, v2, v3, v4, l1, l2, s1, s2, g1, g2, g3, g4, hd⟩
    obtain ⟨W1, hW1⟩ : ∃ W1, W1 = (w8.alloc (.cells #[.int .i64 wd, .int .i64 hi, .slice (some ⟨a1, 0, none⟩) N c1] 28)).alloc (.cells #[.int .i64 wd, .int .i64 hi, .slice (some ⟨a2, 0, none⟩) N c2] 28) := ⟨_, rfl⟩
    have hb1 : Below w8.heap.size w8 W1 := by rw [hW1]; exact below_two w8 _ _
    have A1 : Box3 W1 w8.heap.size (.int .i64 wd) (.int .i64 hi) (.slice (some ⟨a1, 0, none⟩) N c1) 28 := by rw [hW1]; exact box_first w8 _ _ _ _ _
    have A2 : Box3 W1 (w8.heap.size + 1) (.int .i64 wd) (.int .i64 hi) (.slice (some ⟨a2, 0, none⟩) N c2) 28 := by rw [hW1]; exact box_second w8 _ _ _ _ _
    have t1 := s1.below hb1
    have t2 := s2.below hb1
    have hNN : N ≤ 24 := by rw [hN]; exact Nat.mul_le_mul v2 v4
    have KT1 := Lib.hid (fun W g (hb : Below W1.heap.size W1 W) (hl : LitN W g [wd, hi]) => (show Calls Tryd.prog 27 #[.slice (some ⟨g, 0, none⟩) 2 2, .slice (some ⟨a1, 0, none⟩) N c1] W fun e w' => ∃ s, e = .returned (.string s) ∧ LineB 240 s ∧ Below W1.heap.size W1 w' ∧ Below W.heap.size W w' from
      (s08Text_any W g 2 2 [wd, hi] _ N c1 bs1 hl rfl (t1.below hb) (by omega)).mono fun e w' ⟨h1, h2⟩ => ⟨_, h1, lineB_txt hl.2.2.1 hl.2.2.2.2 (by omega), hb.trans (h2.mono hb.size), h2⟩))
    have KT2 := Lib.hid (fun W g (hb : Below W1.heap.size W1 W) (hl : LitN W g [wd, hi]) => (show Calls Tryd.prog 27 #[.slice (some ⟨g, 0, none⟩) 2 2, .slice (some ⟨a2, 0, none⟩) N c2] W fun e w' => ∃ s, e = .returned (.string s) ∧ LineB 240 s ∧ Below W1.heap.size W1 w' ∧ Below W.heap.size W w' from
      (s08Text_any W g 2 2 [wd, hi] _ N c2 bs2 hl rfl (t2.below hb) (by omega)).mono fun e w' ⟨h1, h2⟩ => ⟨_, h1, lineB_txt hl.2.2.1 hl.2.2.2.2 (by omega), hb.trans (h2.mono hb.size), h2⟩))
    have SV := Lib.hid (fun W (hb : Below W1.heap.size W1 W) => (show W.cell? ⟨w8.heap.size, 0, none⟩ = some (.int .i64 wd) ∧ W.cell? ⟨w8.heap.size, 1, none⟩ = some (.int .i64 hi) ∧ W.cell? ⟨w8.heap.size, 2, none⟩ = some (.slice (some ⟨a1, 0, none⟩) N c1) ∧ W.cell? ⟨w8.heap.size + 1, 0, none⟩ = some (.int .i64 wd) ∧ W.cell? ⟨w8.heap.size + 1, 1, none⟩ = some (.int .i64 hi) ∧ W.cell? ⟨w8.heap.size + 1, 2, none⟩ = some (.slice (some ⟨a2, 0, none⟩) N c2) from by
      obtain ⟨p0, p1, p2, -, -, -⟩ := (A1.below hb).cells
      obtain ⟨r0, r1, r2, -, -, -⟩ := (A2.below hb).cells
      exact ⟨p0, p1, p2, r0, r1, r2⟩))
    have HD := Lib.hid ((H7.out.trans hd).below hb1)
    have HW1 := Lib.hid hW1
    have hb0 := Below.refl W1.heap.size W1
    have SV0 := SV.out _ hb0
    have LM := Lib.hid (fun W => LitN.made2 W wd hi (by omega) (by omega))
    clear hb1 A1 A2 t1 t2 hd s1 s2 hW1 hN g1 g2 g3 g4 l1 l2 KP
    go_upto_region 9 with fail
    rw [← HW1.out]
    have LA := Lib.hid (fun (W : World) (hb : Below W1.heap.size W1 W) => And.intro (hb.alloc hb.size (.cells #[.int .i64 (wd : Int), .int .i64 (hi : Int)] 2)) (LM.out W))
    have B1 := (LA.out W1 hb0).1.drew
    have L1 := (LM.out W1).below (Below.refl _ _).drew
    have B2 := (LA.out _ (LA.out W1 hb0).1).1.drew
    have L2 := ((LM.out W1).below ((Below.refl _ _).alloc (Nat.le_refl _) (.cells #[.int .i64 (wd : Int), .int .i64 (hi : Int)] 2))).below (Below.refl _ _).drew
    have hal : (W1.alloc (.cells #[.int .i64 (wd : Int), .int .i64 (hi : Int)] 2)).heap.size = W1.heap.size + 1 := by simp
    have L3 := (LM.out (W1.alloc (.cells #[.int .i64 (wd : Int), .int .i64 (hi : Int)] 2))).below (Below.refl _ _).drew
    rw [hal] at L3
    have SB := Lib.hid (fun W (hb : Below W1.heap.size W1 W) => SV.out W hb)
    have SD0 := SV.out _ hb0.drew
    have SA1 := SV.out _ (LA.out W1 hb0).1
    have SB1 := SV.out _ B1
    have SA2 := SV.out _ (LA.out _ (LA.out W1 hb0).1).1
    have SB2 := SV.out _ B2
    go_region_held3 (fun W => W.cell? ⟨w8.heap.size, 0, none⟩ = some (.int .i64 wd) ∧ W.cell? ⟨w8.heap.size, 1, none⟩ = some (.int .i64 hi) ∧ W.cell? ⟨w8.heap.size, 2, none⟩ = some (.slice (some ⟨a1, 0, none⟩) N c1) ∧ W.cell? ⟨w8.heap.size + 1, 0, none⟩ = some (.int .i64 wd) ∧ W.cell? ⟨w8.heap.size + 1, 1, none⟩ = some (.int .i64 hi) ∧ W.cell? ⟨w8.heap.size + 1, 2, none⟩ = some (.slice (some ⟨a2, 0, none⟩) N c2))
      (first | (with_reducible exact SD0) | (with_reducible exact SA1) | (with_reducible exact SB1) | (with_reducible exact SA2) | (with_reducible exact SB2) | (with_reducible exact SV10) | (with_reducible exact SV9) | (with_reducible exact SA9) | go_keep)
      ((first
        | (go_at_call 27; (with_reducible refine (KT1.out _ _ B1 L1).mono ?_); rintro e w9 ⟨u1, rfl, hu1, hb9, hb9w⟩; have LL := L1; have SV9 := SV.out _ hb9; have SA9 := SV.out _ (LA.out w9 hb9).1; have l9 := hb9.size; have B9 := (LA.out w9 hb9).1; have L9 := (LA.out w9 hb9).2; have L9b := LL.below hb9w; have z1 : u1.size ≤ 240 := hu1.1; have G1 : (9223372036854775807 < 5 + u1.size) = False := eq_false (by omega); have G2 : (9223372036854775807 < 5 + u1.size + 1) = False := eq_false (by omega))
        | (go_at_call 27; (with_reducible refine (KT1.out _ _ B2 L2).mono ?_); rintro e w9 ⟨u1, rfl, hu1, hb9, hb9w⟩; have LL := L3; have SV9 := SV.out _ hb9; have SA9 := SV.out _ (LA.out w9 hb9).1; have l9 := hb9.size; have B9 := (LA.out w9 hb9).1; have L9 := (LA.out w9 hb9).2; have L9b := LL.below hb9w; have z1 : u1.size ≤ 240 := hu1.1; have G1 : (9223372036854775807 < 5 + u1.size) = False := eq_false (by omega); have G2 : (9223372036854775807 < 5 + u1.size + 1) = False := eq_false (by omega))
        | (go_at_call 27; (with_reducible refine (KT1.out _ _ B2 L3).mono ?_); rintro e w9 ⟨u1, rfl, hu1, hb9, hb9w⟩; have LL := L2; have SV9 := SV.out _ hb9; have SA9 := SV.out _ (LA.out w9 hb9).1; have l9 := hb9.size; have B9 := (LA.out w9 hb9).1; have L9 := (LA.out w9 hb9).2; have L9b := LL.below hb9w; have z1 : u1.size ≤ 240 := hu1.1; have G1 : (9223372036854775807 < 5 + u1.size) = False := eq_false (by omega); have G2 : (9223372036854775807 < 5 + u1.size + 1) = False := eq_false (by omega))
        | (go_at_call 27; (first | (with_reducible refine (KT2.out _ _ B9 L9).mono ?_) | (with_reducible refine (KT2.out _ _ hb9 L9b).mono ?_)); rintro e w10 ⟨u2, rfl, hu2, hb10, hb10w⟩; have SV10 := SV.out _ hb10; have z2 : u2.size ≤ 240 := hu2.1; have G3 : (9223372036854775807 < 5 + u1.size + 1 + u2.size) = False := eq_false (by omega))))
    all_goals
      have HE := Lib.hid (And.intro hu1 (And.intro hu2 hb10))
      clear hu1 hu2 hb10 hb10w SV10 SV9 SA9 B9 L9 L9b LL hb9 hb9w B1 L1 B2 L2 L3 SD0 SA1 SB1 SA2 SB2 SV0 hal hb0
      go_wp2_with fail
      go_ret
      exact ⟨_, rfl, ((((lineB_const (n := 5) (by decide)).app HE.out.1).app (lineB_const (n := 1) (by decide))).app HE.out.2.1).mono (by decide), (HD.out.below HE.out.2.2).mono (by omega)⟩
  · go_wp2_with fail
    refine (textL_any w7 sb _ 3 3 txt1 9 rfl (by decide) (by decide) (by decide +kernel) hok7 (by omega)).mono ?_
    rintro e w8 ⟨s, rfl, hs8, hd8⟩
    have s1 : s.size ≤ 60 := hs8.1
    have H8 := Lib.hid (And.intro hs8 (H7.out.trans hd8))
    have g1 : (9223372036854775807 < s.size + sn.size) = False := eq_false (by omega)
    clear hs8 hd8 hok7
    go_wp2_with fail
    go_ret
    exact ⟨_, rfl, (H8.out.1.app H2.out.1).mono (by decide), H8.out.2.mono (by omega)⟩
  · go_wp2_with fail
    refine (textL_any w7 sb _ 4 4 txt2 9 rfl (by decide) (by decide) (by decide +kernel) hok7 (by omega)).mono ?_
    rintro e w8 ⟨s, rfl, hs8, hd8⟩
    have s1 : s.size ≤ 60 := hs8.1
    have H8 := Lib.hid (And.intro hs8 (H7.out.trans hd8))
    have g1 : (9223372036854775807 < s.size + sn.size) = False := eq_false (by omega)
    have g2 : (9223372036854775807 < s.size + sn.size + 1) = False := eq_false (by omega)
    have g3 : (9223372036854775807 < s.size + sn.size + 1 + sk.size) = False := eq_false (by omega)
    clear hs8 hd8 hok7
    go_wp2_with fail
    go_ret
    exact ⟨_, rfl, (((H8.out.1.app H2.out.1).app (lineB_const (n := 1) (by decide))).app H4.out.1).mono (by decide), H8.out.2.mono (by omega)⟩
  · have g1 : (9223372036854775807 < 7 + sn.size) = False := eq_false (by omega)
    have g2 : (9223372036854775807 < 7 + sn.size + 1) = False := eq_false (by omega)
    have g3 : (9223372036854775807 < 7 + sn.size + 1 + sx.size) = False := eq_false (by omega)
    clear hok7
    go_wp2_with fail
    go_ret
    exact ⟨_, rfl, ((((lineB_const (n := 7) (by decide)).app H2.out.1).app (lineB_const (n := 1) (by decide))).app H6.out.1).mono (by decide), H7.out.mono (by omega)⟩
  · go_wp2_with fail
    refine (one_any _ _ _ 2 (by omega) (by omega) hok7 (by omega)).mono ?_
    rintro e w8 ⟨b, rfl, hd8⟩
    have H8 := Lib.hid (H7.out.trans hd8)
    clear hd8 hok7
    cases b
    · have g1 : (9223372036854775807 < 5 + sx.size) = False := eq_false (by omega)
      have g2 : (9223372036854775807 < 5 + sx.size + 1) = False := eq_false (by omega)
      have g3 : (9223372036854775807 < 5 + sx.size + 1 + sn.size) = False := eq_false (by omega)
      go_wp2_with fail
      go_ret
      exact ⟨_, rfl, ((((lineB_const (n := 5) (by decide)).app H6.out.1).app (lineB_const (n := 1) (by decide))).app H2.out.1).mono (by decide), H8.out.mono (by omega)⟩
    · have g1 : (9223372036854775807 < 7 + sk.size) = False := eq_false (by omega)
      have g2 : (9223372036854775807 < 7 + sk.size + 1) = False := eq_false (by omega)
      have g3 : (9223372036854775807 < 7 + sk.size + 1 + sx.size) = False := eq_false (by omega)
      go_wp2_with fail
      go_ret
      exact ⟨_, rfl, ((((lineB_const (n := 7) (by decide)).app H4.out.1).app (lineB_const (n := 1) (by decide))).app H6.out.1).mono (by decide), H8.out.mono (by omega)⟩
  · have g1 : (9223372036854775807 < 7 + sk.size) = False := eq_false (by omega)
    clear hok7
    go_wp2_with fail
    go_ret
    exact ⟨_, rfl, ((lineB_const (n := 7) (by decide)).app H4.out.1).mono (by decide), H7.out.mono (by omega)⟩
  · go_wp2_with fail
    refine (textL_any w7 sb _ 8 8 txt3 9 rfl (by decide) (by decide) (by decide +kernel) hok7 (by omega)).mono ?_
    rintro e w8 ⟨s, rfl, hs8, hd8⟩
    have H8 := Lib.hid (And.intro hs8 (H7.out.trans hd8))
    clear hs8 hd8 hok7
    go_wp2_with fail
    go_ret
    exact ⟨s, rfl, H8.out.1.mono (by decide), H8.out.2.mono (by omega)⟩

end Go.Proofs.YtmcmcppleikajaaDoor
