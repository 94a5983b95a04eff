/- The reference's bytes of pictures. -/
import Derived.Test.YtkifhajkmgeafaaZc
import Derived.Test.YtkifhajkmgeafaaUe
import Derived.Test.YtkifhajkmgeafaaZh
import Derived.Test.YtkifhajkmgeafaaSame
import Derived.Laws.MathBits
import Derived.Deep.RegionHeld3
import Derived.Deep.RegionLawGrows
import Derived.Lib.SlBytesConst
import Derived.StillTactics
namespace Go.Proofs.Ytkifhajkmgeafaa
open Go.RowKit
set_option maxRecDepth 100000
set_option linter.unusedVariables false
set_option linter.unusedSimpArgs false

theorem s01Check_any (w : World) (z : Nat) (s : ByteArray) (hz : z < 65003) (hs : s.size ≤ 2000000) :
    Calls Try.prog 90 #[.int .i64 z, .string s] w fun e w' => e = .returned (.int .i64 (ckF z s.data.toList : Nat)) ∧ w = w' := by
  obtain ⟨n, hn⟩ : ∃ n, s.size = n := ⟨_, rfl⟩
  have HN := Lib.hid hn
  have hT := Lib.hid (show s.data.toList.take n = s.data.toList by rw [← hn, ← ba_size, List.take_length])
  have HZ := Lib.hid hz
  clear hz
  go_enter Try.func90, Try.ntmps90
  go_wp2_with fail
  go_loop [0, 5] (fun v0 v5 => ∃ i : Nat, v5 = .int .i64 i ∧ i ≤ n ∧ v0 = .int .i64 (ckF z (s.data.toList.take i) : Nat)) (fun _ v5 => n - (intOf v5).toNat)
  case atStart => exact ⟨0, rfl, Nat.zero_le _, rfl⟩
  case round =>
    obtain ⟨i, rfl, hi, rfl⟩ := hrel
    by_cases hlt : i < n
    · have hx : ∀ W', (Instr.index 9 (.string s) (.int .i64 (i : Int))).run Try.prog W' = .ok (.int .u8 ((byteN s i : Nat) : Int)) W' := fun W' => by
        have := idx_at W' s (i : Int) (by omega) (by rw [HN.out]; omega)
        rwa [Int.toNat_natCast] at this
      have hst := ckF_next z (show i < s.size by rw [HN.out]; exact hlt)
      have HST := Lib.hid hst
      have hb := byteN_lt s i
      have hc := ckF_lt HZ.out (s.data.toList.take i)
      generalize ckF z (s.data.toList.take i) = c at *
      generalize byteN s i = b at *
      have hiI : (i : Int) < (n : Int) := by omega
      clear hst
      go_wp2_with fail
      go_roundw
      case rel => exact ⟨i + 1, by go_num, by omega, by rw [HST.out]; go_num⟩
      case measure => simp [intOf]; omega
    · obtain rfl : n = i := by omega
      rw [hT.out]
      go_wp2_with fail
      go_ret
      exact ⟨rfl, rfl⟩

theorem and_byte (n : Int) : bits .and .i64 n 255 = n % 256 := by
  have h255 : (BitVec.ofInt 64 255).toNat = 2 ^ 8 - 1 := by decide
  have key : (BitVec.ofInt 64 n &&& BitVec.ofInt 64 255).toNat = (n % ((2 ^ 64 : Nat) : Int)).toNat % 2 ^ 8 := by
    rw [BitVec.toNat_and, BitVec.toNat_ofInt, h255, Nat.and_two_pow_sub_one_eq_mod]
  show IntKind.i64.wrap ((BitVec.ofInt 64 n &&& BitVec.ofInt 64 255).toNat : Nat) = n % 256
  rw [key, IntKind.wrap_i64]
  omega

/-- Bytes in a slice's cells. -/
theorem own_bytes {w : World} {B n : Nat} {v : Value} {l : List UInt8} {ns : List Nat} (hl : l.length = n) (hn : ∀ z ∈ ns, z < 256) (h : w.ownsRow B 5 1 v (n + ns.length) (uCells l ++ ns.map fun z => .int .u8 (z : Int))) :
    OwnU w B v (l ++ ns.map UInt8.ofNat) := by
  unfold OwnU
  rw [List.length_append, hl, List.length_map]
  have e : uCells (l ++ ns.map UInt8.ofNat) = uCells l ++ ns.map fun z => .int .u8 (z : Int) := by
    unfold uCells
    rw [List.map_append, List.map_map]
    congr 1
    refine List.map_congr_left fun z hz => ?_
    have := hn z hz
    show Value.int .u8 ((UInt8.ofNat z).toNat : Int) = _
    rw [UInt8.toNat_ofNat']; congr 2; omega
  rw [e]; exact h
theorem below_none {w wr : World} (h : w.grownBy wr none) : Below w.heap.size w wr := ⟨h.os, h.tape, h.output, h.size, fun k hk => h.block k hk (by simp)⟩
theorem row_mono {w : World} {B B' n k : Nat} {v : Value} {T : TypeId} {cs : List Value} (h : w.ownsRow B T k v n cs) (hB : B' ≤ B) : w.ownsRow B' T k v n cs :=
  ⟨h.1, h.2.elim Or.inl fun ⟨g, cap, cur, hv, hg, r⟩ => Or.inr ⟨g, cap, cur, hv, Nat.le_trans hB hg, r⟩⟩
theorem cells_newL (w : World) (cs : List Value) (T : TypeId) : ∀ j u, cs[j]? = some u → (w.alloc (.cells cs.toArray T)).cell? ((⟨w.heap.size, 0, none⟩ : Addr).add j) = some u := by
  intro j u h
  have hb := BoxN.last w cs.toArray T
  have z : (⟨w.heap.size, 0, none⟩ : Addr).add j = ⟨w.heap.size, j, none⟩ := by simp [Addr.add]; try omega
  rw [z, hb.cell j]
  rw [← h]; simp

theorem SlF.cellAtM {w : World} {b cap n : Nat} {bs : List Nat} (h : SlF w (.slice (some ⟨b, 0, none⟩) n cap) bs) (i : Nat) (hi : i < bs.length) : w.cell? ⟨b, i, none⟩ = some (.float .f32 (bs.getD i 0)) ∧ bs.getD i 0 < 4294967296 := by
  have := SlF.cellAt h i hi
  rwa [Nat.zero_add] at this
theorem stoI_len2 (wd hi : Nat) (bs : List Nat) (i : Nat) (h : i ≤ bs.length) : (stoI wd hi bs i).length = 6 + 4 * i := by
  unfold stoI
  rw [List.length_append, List.length_append, List.length_append, leB_len, leB_len, flat4_len, List.length_take, Nat.min_eq_left h]; simp
set_option maxHeartbeats 4000000 in
theorem s07Store_any (w : World) (pb wd hi q c n : Nat) (bs : List Nat) (hl : bs.length = n) (hw : wd < 256) (hh : hi < 256) (hn : n ≤ 600) (hx : Box3 w pb (.int .i64 wd) (.int .i64 hi) (.slice (some ⟨q, 0, none⟩) n c) 41) (hs : SlF w (.slice (some ⟨q, 0, none⟩) n c) bs) :
    Calls Try.prog 89 #[.pointer (some ⟨pb, 0, none⟩)] w fun e w' => e = .returned (.string ⟨(stoL wd hi bs).toArray⟩) ∧ Below w.heap.size w w' := by
  obtain ⟨i0, hi0, hz0, hz1, hz2⟩ := info_parts info_u8
  obtain ⟨W0, hW0⟩ : ∃ W, W = w.alloc (.cells #[.int .u8 69, .int .u8 89, .int .u8 69, .int .u8 49] 5 (4, 5)) := ⟨_, rfl⟩
  have hb0 : Below w.heap.size w W0 := by rw [hW0]; exact (Below.refl _ _).alloc (Nat.le_refl _) _
  have hbk : W0.heap[w.heap.size]? = some (.cells #[.int .u8 69, .int .u8 89, .int .u8 69, .int .u8 49] 5 (4, 5)) := by rw [hW0]; exact heap_alloc_new w _
  have holds : ∀ j u, ([.int .u8 69, .int .u8 89, .int .u8 69, .int .u8 49] : List Value)[j]? = some u → W0.cell? ((⟨w.heap.size, 0, none⟩ : Addr).add j) = some u := by
    intro j u h
    have z : (⟨w.heap.size, 0, none⟩ : Addr).add j = ⟨w.heap.size, j, none⟩ := by simp [Addr.add]; try omega
    rw [z]; simp [World.cell?, hbk]; exact h
  have hcv := Lib.run_convert_bytes_const w 22 5 #[.int .u8 69, .int .u8 89, .int .u8 69, .int .u8 49] 4 4 (P := Try.prog) Try.underlying22 Try.underlying5
  have HX := Lib.hid (hx.below hb0)
  have HB0 := Lib.hid hb0
  have holds2 : ∀ o j u, ([.int .u8 69, .int .u8 89, .int .u8 69, .int .u8 49] : List Value)[j]? = some u → (W0.alloc o).cell? ((⟨w.heap.size, 0, none⟩ : Addr).add j) = some u := fun o j u h => by
    have h8 := holds j u h
    have z : (⟨w.heap.size, 0, none⟩ : Addr).add j = ⟨w.heap.size, j, none⟩ := by simp [Addr.add]; try omega
    rw [z] at h8 ⊢
    have hb : Below W0.heap.size W0 (W0.alloc o) := (Below.refl _ _).alloc (Nat.le_refl _) _
    rw [hb.cell (p := ⟨w.heap.size, j, none⟩) (by rw [hW0]; simp)]; exact h8
  have HOL := Lib.hid holds2
  have HSL := Lib.hid (hs.below hb0)
  have HW0 := Lib.hid hW0
  have hw2 : IntKind.u8.wrap (wd : Int) = (wd : Int) := IntWalk.u8_in _ (by omega)
  have hh2 : IntKind.u8.wrap (hi : Int) = (hi : Int) := IntWalk.u8_in _ (by omega)
  have hlt0 : w.heap.size < W0.heap.size := by rw [hW0]; simp
  clear hx hs hb0 holds holds2 hbk hW0
  go_enter Try.func89, Try.ntmps89
  go_upto_region 2 with fail
  rw [← HW0.out]
  clear hcv
  obtain ⟨c0, c1, c2, -, -, -⟩ := HX.out.cells
  go_region_law (refine step_append_grows rfl _ _ _ (by rfl) 5 i0 _ 1 1 Try.underlying22 hi0 hz0 hz1 hz2 rfl (by omega) (some ⟨w.heap.size, 0, none⟩) 4 4 [.int .u8 69, .int .u8 89, .int .u8 69, .int .u8 49] (by rfl) (by simp) (by rfl) (fun b hb => by injection hb with hb; subst hb; exact fun j u h => by have h9 := HOL.out (.cells #[.int .u8 wd, .int .u8 hi] 5) j u h; simpa using h9) ⟨W0.heap.size, 0, none⟩ 2 2 [.int .u8 wd, .int .u8 hi] (by rfl) (by rfl) (cells_newL _ [.int .u8 wd, .int .u8 hi] _) (by simp [Value.oneCell']) (by omega) (by unfold maxLen; omega) (by omega) ?_; intro v1 w1 hown1 hgrow1)
  all_goals
    have hal : Below W0.heap.size W0 (W0.alloc (.cells #[.int .u8 wd, .int .u8 hi] 5)).drew := below_drewN ((Below.refl _ _).alloc (Nat.le_refl _) _) 1
    have hb1 : Below W0.heap.size W0 w1 := hal.trans ((below_none hgrow1).mono hal.size)
    have ho1 : OwnU w1 W0.heap.size v1 (stoI wd hi bs 0) := by
      have e : stoI wd hi bs 0 = [69, 89, 69, 49] ++ [wd, hi].map UInt8.ofNat := by
        unfold stoI leB leB
        rw [Nat.pow_zero, Nat.div_one, Nat.div_one, Nat.mod_eq_of_lt hw, Nat.mod_eq_of_lt hh]; rfl
      rw [e]
      exact own_bytes (n := 4) (l := [69, 89, 69, 49]) rfl (fun z hz => by simp at hz; omega) (row_mono hown1 hal.size)
    have HO1 := Lib.hid (And.intro hb1 ho1)
    clear hal hb1 ho1 hown1 hgrow1 c0 c1 c2 hw2 hh2
    go_wp2_with fail
    go_loopw [3, 4] (fun v3 v4 wr => ∃ (i : Nat) (v : Value), v4 = .int .i64 i ∧ i ≤ n ∧ v = v3 ∧ OwnU wr W0.heap.size v (stoI wd hi bs i) ∧ Below W0.heap.size W0 wr) (fun _ v4 _ => n - (intOf v4).toNat)
    case atStart => exact ⟨0, _, rfl, Nat.zero_le _, rfl, HO1.out.2, HO1.out.1⟩
    case round =>
      clear HO1
      obtain ⟨i, v3, rfl, hi_, rfl, hown, hb⟩ := hrel
      obtain ⟨-, -, c2, -, -, -⟩ := (HX.out.below hb).cells
      by_cases hlt : i < n
      · have hg := (HSL.out.below hb).cellAtM i (by omega)
        have hg1 := hg.1
        have hst := stoI_step wd hi (bs := bs) (i := i) (by omega)
        have KB := Lib.hid (fun W => s01Bits_any (bs.getD i 0) W hg.2)
        obtain ⟨z, hz⟩ : ∃ z, fl (bs.getD i 0) = z := ⟨_, rfl⟩
        have hzl : z < 4294967296 := by rw [← hz]; exact fl_lt hg.2
        rw [hz] at KB hst
        generalize bs.getD i 0 = b at *
        have hlen := stoI_len2 wd hi bs i (by omega)
        obtain ⟨cs, hcs⟩ : ∃ cs, stoI wd hi bs i = cs := ⟨_, rfl⟩
        rw [hcs] at hown hst hlen
        have e4 : leB z 4 = [z % 256, z / 256 % 256, z / 65536 % 256, z / 16777216 % 256].map UInt8.ofNat := by
          unfold leB leB leB leB leB
          rw [Nat.pow_zero, Nat.div_one]; rfl
        rw [e4] at hst
        obtain ⟨b0, h0⟩ : ∃ b0, z % 256 = b0 := ⟨_, rfl⟩
        obtain ⟨b1, h1⟩ : ∃ b0, z / 256 % 256 = b0 := ⟨_, rfl⟩
        obtain ⟨b2, h2⟩ : ∃ b0, z / 65536 % 256 = b0 := ⟨_, rfl⟩
        obtain ⟨b3, h3⟩ : ∃ b0, z / 16777216 % 256 = b0 := ⟨_, rfl⟩
        rw [h0, h1, h2, h3] at hst
        have a0 : bits .and .i64 (z : Int) 255 = (b0 : Int) := by rw [and_byte]; omega
        have a1 : bits .and .i64 ((z : Int) / 256) 255 = (b1 : Int) := by rw [and_byte]; omega
        have a2 : bits .and .i64 ((z : Int) / 65536) 255 = (b2 : Int) := by rw [and_byte]; omega
        have a3 : bits .and .i64 ((z : Int) / 16777216) 255 = (b3 : Int) := by rw [and_byte]; omega
        have u0 : IntKind.u8.wrap (b0 : Int) = (b0 : Int) := IntWalk.u8_in _ (by omega)
        have u1 : IntKind.u8.wrap (b1 : Int) = (b1 : Int) := IntWalk.u8_in _ (by omega)
        have u2 : IntKind.u8.wrap (b2 : Int) = (b2 : Int) := IntWalk.u8_in _ (by omega)
        have u3 : IntKind.u8.wrap (b3 : Int) = (b3 : Int) := IntWalk.u8_in _ (by omega)
        have hb4 : ∀ y ∈ [b0, b1, b2, b3], y < 256 := fun y hy => by simp at hy; omega
        have HST := Lib.hid (And.intro hst hb4)
        have HB := Lib.hid hb
        have hbs := hb.size
        have hltI : (i : Int) < (n : Int) := by omega
        have hrow : wr.ownsRow W0.heap.size 5 1 v3 (6 + 4 * i) (uCells cs) := by rw [← hlen]; exact hown
        have HCS := Lib.hid hcs
        have HOW := Lib.hid hown
        clear hg hst hz h0 h1 h2 h3 e4 hb4 hb hcs hown
        go_wp2_with fail
        refine (KB.out _).mono ?_
        rintro e w' ⟨rfl, rfl⟩
        have hsz0 : w.heap.size ≤ wr.heap.size := Nat.le_trans HB0.out.size hbs
        go_wp2_with (at_builtin; refine wpList_append_lies _ (by rfl) _ _ _ (by rfl) W0.heap.size 5 i0 _ 1 1 Try.underlying22 hi0 hz0 hz1 hz2 rfl (by omega) v3 (6 + 4 * i) _ (by rfl) (World.ownsRow.alloc hrow _) ⟨wr.heap.size, 0, none⟩ 4 4 [.int .u8 (b0 : Int), .int .u8 (b1 : Int), .int .u8 (b2 : Int), .int .u8 (b3 : Int)] (by rfl) (by rfl) (cells_newL _ [.int .u8 (b0 : Int), .int .u8 (b1 : Int), .int .u8 (b2 : Int), .int .u8 (b3 : Int)] _) (by simp [Value.oneCell']) (by omega) (by unfold maxLen; omega) (by omega) (by simp; omega) (wr.heap.size + 1) (by simp) ?_; intro gg cap w2 hown2 hgrow hat hlt2)
        have hfin : OwnU w2 W0.heap.size (.slice (some ⟨gg, 0, none⟩) (6 + 4 * i + 4) cap) (stoI wd hi bs (i + 1)) := by
          rw [HST.out.1]
          exact own_bytes (n := 6 + 4 * i) (ns := [b0, b1, b2, b3]) hlen HST.out.2 hown2
        have hbw : Below W0.heap.size W0 w2 := (HB.out.alloc HB.out.size _).grown hgrow (by simp; omega) (fun k hk => by have := (HOW.out.lt hk).1; omega)
        exact ⟨⟨i + 1, _, by go_num, by omega, rfl, hfin, hbw⟩, by simp [intOf]; omega⟩
      · obtain rfl : n = i := by omega
        have hall : stoI wd hi bs n = stoL wd hi bs := by
          unfold stoI stoL; rw [List.take_of_length_le (by omega)]
        rw [hall] at hown
        have hstr := fun (_ : Unit) => hown.str
        have hcv := hown.str
        have HBF := Lib.hid (HB0.out.trans (hb.mono HB0.out.size))
        clear hown hb hall hstr
        go_wp2_with fail
        go_ret
        exact ⟨rfl, HBF.out⟩

end Go.Proofs.Ytkifhajkmgeafaa
