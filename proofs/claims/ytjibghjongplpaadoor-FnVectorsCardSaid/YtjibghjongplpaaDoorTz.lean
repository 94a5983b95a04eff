/- The program's texts of numbers: NumbersText, joined. -/
import Derived.Test.YtjibghjongplpaaDoorTy
import Derived.Test.YtjibghjongplpaaDoorSj
import Derived.Test.YtjibghjongplpaaDoorSs
namespace Go.Proofs.YtjibghjongplpaaDoor
open Go.RowKit
set_option maxRecDepth 100000
set_option linter.unusedVariables false
set_option linter.unusedSimpArgs false

theorem listOk_any (w : World) (sa : Option Addr) (n c : Nat) (hn : n ≤ 9223372036854775807) : Calls Tryd.prog 32 #[.slice sa n c] w fun e w' => e = .returned (.bool (decide (n ≤ 256))) ∧ w = w' := by
  have e : decide (n ≤ 256) = decide ((n : Int) ≤ 256) := decide_eq_decide.2 (by omega)
  rw [e]
  go_enter Tryd.func32, Tryd.ntmps32
  go_wp2
  go_ret
  exact ⟨rfl, rfl⟩

/-- Texts of eight bytes, joined by the library, are the list with commas. -/
theorem join_comma (ps : List (List UInt8)) (h : ps ≠ []) : Lib.join ps [44] = commaL ps := by
  match ps, h with
  | p :: ps, _ =>
    rw [Lib.join_cons]
    show p ++ Lib.joinTail [44] ps = p ++ ps.flatMap (fun q => 44 :: q)
    unfold Lib.joinTail
    rw [List.flatMap_def]; rfl

theorem joined_any (w : World) (B : Nat) (v : Value) (ps : List (List UInt8)) (h : OwnS w B v ps) (hn : ps.length ≤ 2048) (h8 : ∀ p ∈ ps, p.length = 8) :
    Calls Tryd.prog 34 #[v] w fun e w' => e = .returned (.string ⟨(commaL ps).toArray⟩) ∧ Below w.heap.size w w' := by
  by_cases h0 : ps = []
  · subst h0
    obtain ⟨sa, c, rfl⟩ : ∃ a c, v = .slice a 0 c := by
      rcases h.2 with ⟨q1, q2⟩ | ⟨g, cap, cur, e, r⟩
      · exact ⟨none, 0, q1⟩
      · exact ⟨_, _, e⟩
    go_enter Tryd.func34, Tryd.ntmps34
    go_wp2_with fail
    go_ret
    exact ⟨rfl, Below.refl _ _⟩
  · rcases h.2 with ⟨q1, q2⟩ | ⟨g, cap, cur, e, hg, hh, h3, h4, r⟩
    · exact absurd (List.length_eq_zero_iff.1 q2) h0
    · subst e
      have hpos : 0 < ps.length := by
        rcases Nat.eq_zero_or_pos ps.length with hz | hz
        · exact absurd (List.length_eq_zero_iff.1 hz) h0
        · exact hz
      have hlt := (h.lt (k := g) rfl).2
      have hcells : ∀ (j : Nat) (x : ByteArray), (ps.map fun p => (⟨p.toArray⟩ : ByteArray))[j]? = some x → w.cell? ⟨g, 0 + j, none⟩ = some (.string x) := fun j x hx => by
        have := World.ownsRow.cells h (g := g) rfl j (.string x) (by
          unfold sCells
          rw [List.getElem?_map] at hx ⊢
          cases hq : ps[j]? with
          | none => rw [hq] at hx; simp at hx
          | some p => rw [hq] at hx; simp at hx; rw [← hx]; rfl)
        have z : (⟨g, 0, none⟩ : Addr).add j = ⟨g, 0 + j, none⟩ := by simp [Addr.add]; try omega
        rw [z] at this; exact this
      have hmm : (ps.map fun p => (⟨p.toArray⟩ : ByteArray)).map (fun s => s.data.toList) = ps := by
        rw [List.map_map]
        conv => rhs; rw [← List.map_id ps]
        rfl
      have hjl : (Lib.join ps [44]).length ≤ 20000 := by
        rw [join_comma ps h0, commaL_len ps h8 h0]; omega
      have KJ := Lib.hid (Tryd.strings_Join g 0 cap (ps.map fun p => (⟨p.toArray⟩ : ByteArray)) ⟨#[44]⟩ w hcells hlt (by rw [List.length_map]; omega) (by rw [List.length_map]; exact h3) (by rw [hmm]; exact Nat.le_trans hjl (by omega)))
      rw [hmm, List.length_map, show (⟨#[44]⟩ : ByteArray).data.toList = [44] from rfl, join_comma ps h0] at KJ
      have hd0 : ((ps.length : Int) == 0) = false := by simp; omega
      have hd1 : ¬ (ps.length : Int) = 0 := by omega
      generalize ps.length = n at *
      clear h hh r hcells hmm hjl h8 h0
      go_enter Tryd.func34, Tryd.ntmps34
      go_wp2_with fail
      refine KJ.out.mono ?_
      rintro e w' ⟨rfl, hb⟩
      go_wp2_with fail
      go_ret
      exact ⟨rfl, hb⟩

/-- The digits of a list's words, one by one. -/
def hexs (bs : List Nat) : List (List UInt8) := bs.map fun b => hexL (fl b)
theorem hexs_len (bs : List Nat) : (hexs bs).length = bs.length := by simp [hexs]

set_option maxHeartbeats 4000000 in
theorem numbersText_any (w : World) (sa : Option Addr) (n c : Nat) (bs : List Nat) (h : SlF w (.slice sa n c) bs) (hn : bs.length = n) (hl : n ≤ 256) :
    Calls Tryd.prog 8 #[.slice sa n c] w fun e w' => e = .returned (.tuple #[.string ⟨(numT bs).toArray⟩, .bool true]) ∧ Below w.heap.size w w' := by
  obtain ⟨i0, hi0, hz0, hz1, hz2⟩ := info_parts info_u8
  obtain ⟨j0, hj0, hy0, hy1, hy2⟩ := info_parts info_strT
  have HS := Lib.hid h
  have HN := Lib.hid hn
  have KL := Lib.hid (fun W => listOk_any W sa n c (by omega))
  rw [decide_eq_true hl] at KL
  have HO0 := Lib.hid (OwnS.start w w.heap.size (Nat.le_refl _))
  have hb0 : Below w.heap.size w (w.alloc (.cells #[] 9)) := (Below.refl _ _).alloc (Nat.le_refl _) _
  have HB0 := Lib.hid hb0
  have KB := Lib.hid (fun W b (hb : b < 4294967296) => bitsOf_any b W hb)
  clear h hn hb0
  go_enter Tryd.func8, Tryd.ntmps8
  go_wp2_with fail
  refine (KL.out _).mono ?_
  rintro e w0 ⟨rfl, rfl⟩
  go_wp2_with fail
  go_loopw [4, 15] (fun v4 v15 wr => ∃ (i : Nat) (v : Value), v15 = .int .i64 i ∧ i ≤ n ∧ v = v4 ∧ OwnS wr w.heap.size v (hexs (bs.take i)) ∧ Below w.heap.size w wr) (fun _ v15 _ => n - (intOf v15).toNat)
  case atStart => exact ⟨0, _, rfl, Nat.zero_le _, rfl, HO0.out, HB0.out⟩
  case round =>
    clear HO0 HB0
    obtain ⟨i, v, rfl, hi, rfl, hown, hb⟩ := hrel
    have HOW := Lib.hid hown
    have HB := Lib.hid hb
    have hlen : (hexs (bs.take i)).length = i := by rw [hexs_len, List.length_take, HN.out]; omega
    by_cases hlt : i < n
    · obtain ⟨b1, o1, rfl, k1, k2⟩ : ∃ b1 o1, sa = some ⟨b1, o1, none⟩ ∧ wr.cell? ⟨b1, o1 + i, none⟩ = some (.float .f32 (bs.getD i 0)) ∧ bs.getD i 0 < 4294967296 := by
        have hS := HS.out.below hb
        obtain ⟨b1, o1, _, q1, _, _⟩ := hS.form (by intro e; have := HN.out; rw [e] at this; simp at this; omega)
        simp only [Value.slice.injEq] at q1
        obtain ⟨rfl, _⟩ := q1
        have k1 := cellAt2 hS i (by rw [HN.out]; exact hlt)
        exact ⟨b1, o1, rfl, k1.1, k1.2⟩
      have hltI : (i : Int) < (n : Int) := by omega
      have htk := take_last (show i < bs.length by rw [HN.out]; exact hlt)
      obtain ⟨x, hx⟩ : ∃ x, bs.getD i 0 = x := ⟨_, rfl⟩
      rw [hx] at k1 k2 htk
      have hhx : hexs (bs.take (i + 1)) = hexs (bs.take i) ++ [hexL (fl x)] := by rw [htk]; unfold hexs; rw [List.map_append]; rfl
      have HHX := Lib.hid hhx
      have KX := Lib.hid (fun W => KB.out W x k2)
      have hzl := fl_lt k2
      have HU0 := Lib.hid (OwnU.start wr wr.heap.size (Nat.le_refl _))
      have hbu : Below wr.heap.size wr (wr.alloc (.cells #[] 5)) := (Below.refl _ _).alloc (Nat.le_refl _) _
      have HBU := Lib.hid hbu
      have HL := Lib.hid hlen
      generalize fl x = z at *
      obtain ⟨wo, hwo⟩ : ∃ wo, wo = wr := ⟨_, rfl⟩
      subst hwo
      clear hown hb hx htk hhx hbu k2 hlen
      go_wp2_with fail
      clear k1
      go_loopw [7, 8] (fun v7 v8 wr => ∃ (j : Nat) (u : Value), v8 = .int .i64 (28 - 4 * (j : Int)) ∧ j ≤ 8 ∧ u = v7 ∧ OwnU wr wo.heap.size u (hexN z j) ∧ Below wo.heap.size wo wr) (fun _ v8 _ => (intOf v8 + 4).toNat)
      case atStart => exact ⟨0, _, rfl, by omega, rfl, HU0.out, HBU.out⟩
      case round =>
        clear HU0 HBU
        obtain ⟨j, u, rfl, hj, rfl, hou, hbel⟩ := hrel
        have HBE := Lib.hid hbel
        have HO := Lib.hid hou
        have hli := hexN_len z j
        by_cases hlj : j < 8
        · have own1 : wr.ownsRow wo.heap.size 5 1 u j (uCells (hexN z j)) := by
            have := hou
            unfold OwnU at this
            rwa [hli] at this
          obtain ⟨k, hk⟩ : ∃ k : Nat, 28 - 4 * j = k := ⟨_, rfl⟩
          have hkI : 28 - 4 * (j : Int) = (k : Int) := by omega
          have hk64 : (k : Int) ≤ 64 := by omega
          have hk0 : (0 : Int) ≤ (k : Int) := by omega
          have hst := hexN_succ z j
          rw [hk] at hst
          obtain ⟨d, hd⟩ : ∃ d, z / 2 ^ k % 16 = d := ⟨_, rfl⟩
          rw [hd] at hst
          have hd16 : d < 16 := by rw [← hd]; exact Nat.mod_lt _ (by decide)
          have hbits : bits .and .i64 ((z : Int) / 2 ^ k) 15 = (d : Int) := by
            rw [and15, ← hd]
            have e2 : ((2 : Int) ^ k) = ((2 ^ k : Nat) : Int) := by simp
            rw [e2]; omega
          have hix := fun W => hex_idx W d hd16
          have hg0 : decide ((0 : Int) ≤ (k : Int)) = true := decide_eq_true (by omega)
          have wk2 : IntKind.i64.wrap ((k : Int) - 4) = (k : Int) - 4 := IntWalk.i64_in _ (by omega)
          have HST := Lib.hid hst
          have HK := Lib.hid hkI
          have hbn := hbel.size
          obtain ⟨hx, hhx⟩ : ∃ h : UInt8, hexC d = h := ⟨_, rfl⟩
          rw [hhx] at hix HST
          have hxl : hx.toNat < 256 := hx.toNat_lt
          rw [hkI]
          clear hou hbel hst hd hk hkI hhx
          go_wp2_with fail
          refine (KX.out _).mono ?_
          rintro e w3 ⟨rfl, rfl⟩
          go_wp2_with (at_builtin; refine wpList_append_lies _ (by rfl) _ _ _ (by rfl) wo.heap.size 5 i0 _ 1 1 Tryd.underlying22 hi0 hz0 hz1 hz2 rfl (by omega) u j _ (by rfl) (World.ownsRow.alloc own1 _) ⟨wr.heap.size, 0, none⟩ 1 1 [.int .u8 ((hx.toNat : Nat) : Int)] (by rfl) (by rfl) (cell_one_new _ _ _) (by simp [Value.oneCell']) (by omega) (by unfold maxLen; omega) (by omega) (by simp; omega) (wr.heap.size + 1) (by simp) ?_; intro g cap w2 hown2 hgrow hat hlt2)
          refine ⟨⟨j + 1, _, by have := HK.out; congr 1; push_cast; omega, by omega, rfl, ?_, ?_⟩, by simp [intOf]; omega⟩
          · rw [HST.out]; exact own_snocU (hexN_len z j) hown2
          · exact (HBE.out.alloc HBE.out.size _).grown hgrow (by have := HBE.out.size; simp; omega) (fun k hk => (HO.out.lt hk).1)
        · obtain rfl : j = 8 := by omega
          have hcv := hou.str
          have hbn := hbel.size
          have hsz1 := HB.out.size
          have hrow : wr.ownsRow w.heap.size 9 1 v i (sCells (hexs (bs.take i))) := by
            have h9 := HOW.out.below hbel
            unfold OwnS at h9
            rwa [HL.out] at h9
          have he8 : hexN z 8 = hexL z := rfl
          rw [he8] at hcv
          clear hou hbel he8
          go_wp2_with (at_builtin; refine wpList_append_lies _ (by rfl) _ _ _ (by rfl) w.heap.size 9 j0 _ 1 16 Tryd.underlying57 hj0 hy0 hy1 hy2 rfl (by omega) v i _ (by rfl) (World.ownsRow.alloc hrow _) ⟨wr.heap.size, 0, none⟩ 1 1 [.string ⟨(hexL z).toArray⟩] (by rfl) (by rfl) (cell_one_new _ _ _) (by simp [Value.oneCell']) (by omega) (by unfold maxLen; omega) (by omega) (by simp; omega) (wr.heap.size + 1) (by simp) ?_; intro g cap w2 hown2 hgrow hat hlt2)
          refine ⟨⟨i + 1, _, by go_num, by omega, rfl, ?_, ?_⟩, by simp [intOf]; omega⟩
          · rw [HHX.out]; exact own_snocS HL.out hown2
          · have hbb := HB.out.trans (HBE.out.mono hsz1)
            exact (hbb.alloc hbb.size _).grown hgrow (by have := hbb.size; simp; omega) (fun k hk => (HOW.out.lt hk).1)
    · obtain rfl : n = i := by omega
      have hall : hexs (bs.take n) = hexs bs := by rw [← HN.out, List.take_length]
      rw [hall] at hown
      have KJ := Lib.hid (joined_any wr w.heap.size v (hexs bs) hown (by rw [hexs_len, HN.out]; omega) (fun p hp => by obtain ⟨b, _, rfl⟩ := List.mem_map.1 hp; exact hexL_len _))
      have e1 : commaL (hexs bs) = numT bs := rfl
      rw [e1] at KJ
      clear hown hall e1 hb HOW
      go_wp2_with fail
      refine KJ.out.mono ?_
      rintro e w2 ⟨rfl, hb2⟩
      have HF := Lib.hid (HB.out.trans (hb2.mono HB.out.size))
      clear hb2
      go_wp2_with fail
      go_ret2
      exact ⟨rfl, HF.out⟩

end Go.Proofs.YtjibghjongplpaaDoor
