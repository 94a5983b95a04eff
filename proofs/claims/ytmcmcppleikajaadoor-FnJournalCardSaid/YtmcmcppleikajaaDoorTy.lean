/- The reference's texts of numbers. -/
import Derived.Test.YtmcmcppleikajaaDoorTx
import Derived.Test.YtmcmcppleikajaaDoorEx
namespace Go.Proofs.YtmcmcppleikajaaDoor
open Go.RowKit
set_option maxRecDepth 100000
set_option linter.unusedVariables false
set_option linter.unusedSimpArgs false

/-- A byte behind bytes. -/
theorem own_snocU {w : World} {B n gg cap : Nat} {l : List UInt8} {d : UInt8} (hl : l.length = n) (h : w.ownsRow B 5 1 (.slice (some ⟨gg, 0, none⟩) (n + 1) cap) (n + 1) (uCells l ++ [.int .u8 ((d.toNat : Nat) : Int)])) :
    OwnU w B (.slice (some ⟨gg, 0, none⟩) (n + 1) cap) (l ++ [d]) := by
  subst hl
  unfold OwnU
  rw [List.length_append, List.length_singleton]
  have e : uCells (l ++ [d]) = uCells l ++ [Value.int .u8 ((d.toNat : Nat) : Int)] := by unfold uCells; rw [List.map_append]; rfl
  rw [e]; exact h

set_option maxHeartbeats 1000000 in
theorem s01Hex_any (w : World) (b : Nat) (hb : b < 4294967296) :
    Calls Tryd.prog 24 #[.float .f32 b] w fun e w' => e = .returned (.string ⟨(hexL (fl b)).toArray⟩) ∧ Below w.heap.size w w' := by
  obtain ⟨i0, hi0, hz0, hz1, hz2⟩ := info_parts info_u8
  have HS := Lib.hid (OwnU.start w w.heap.size (Nat.le_refl _))
  have hb0 : Below w.heap.size w (w.alloc (.cells #[] 5)) := (Below.refl _ _).alloc (Nat.le_refl _) _
  have HB := Lib.hid hb0
  have KB := Lib.hid (fun W => s01Bits_any b W hb)
  have hzl := fl_lt hb
  generalize fl b = z at *
  clear hb0
  go_enter Tryd.func24, Tryd.ntmps24
  go_wp2_with fail
  refine (KB.out _).mono ?_
  rintro e w' ⟨rfl, rfl⟩
  go_wp2_with fail
  go_loopw [4, 5] (fun v4 v5 wr => ∃ (i : Nat) (v : Value), v5 = .int .i64 (28 - 4 * (i : Int)) ∧ i ≤ 8 ∧ v = v4 ∧ OwnU wr w.heap.size v (hexN z i) ∧ Below w.heap.size w wr) (fun _ v5 _ => (intOf v5 + 4).toNat)
  case atStart => exact ⟨0, _, rfl, by omega, rfl, HS.out, HB.out⟩
  case round =>
    clear HS HB
    obtain ⟨i, v, rfl, hi, rfl, hown, hbel⟩ := hrel
    have HBE := Lib.hid hbel
    have HO := Lib.hid hown
    have hli := hexN_len z i
    by_cases hlt : i < 8
    · have own1 : wr.ownsRow w.heap.size 5 1 v i (uCells (hexN z i)) := by
        have := hown
        unfold OwnU at this
        rwa [hli] at this
      obtain ⟨k, hk⟩ : ∃ k : Nat, 28 - 4 * i = k := ⟨_, rfl⟩
      have hkI : 28 - 4 * (i : Int) = (k : Int) := by omega
      have hk64 : (k : Int) ≤ 64 := by omega
      have hk0 : (0 : Int) ≤ (k : Int) := by omega
      have hst := hexN_succ z i
      rw [hk] at hst
      obtain ⟨d, hd⟩ : ∃ d, z / 2 ^ k % 16 = d := ⟨_, rfl⟩
      rw [hd] at hst
      have hd16 : d < 16 := by rw [← hd]; exact Nat.mod_lt _ (by decide)
      have hbits : bits .and .i64 ((z : Int) / 2 ^ k) 15 = (d : Int) := by
        rw [and15, ← hd]
        have e2 : ((2 : Int) ^ k) = ((2 ^ k : Nat) : Int) := by simp
        rw [e2]; omega
      have hix := fun W => hex_idx W d hd16
      have hg0 : decide ((0 : Int) ≤ (k : Int)) = true := decide_eq_true (by omega)
      have wk : IntKind.u64.wrap (k : Int) = (k : Int) := by simp [IntKind.wrap, IntKind.bits, IntKind.signed]; omega
      have wk2 : IntKind.i64.wrap ((k : Int) - 4) = (k : Int) - 4 := IntWalk.i64_in _ (by omega)
      have HST := Lib.hid hst
      have HK := Lib.hid hkI
      have hbn := hbel.size
      obtain ⟨hx, hhx⟩ : ∃ h : UInt8, hexC d = h := ⟨_, rfl⟩
      rw [hhx] at hix HST
      have hxl : hx.toNat < 256 := hx.toNat_lt
      rw [hkI]
      clear hown hbel hst hd hk hkI hhx
      go_wp2_with (at_builtin; refine wpList_append_lies _ (by rfl) _ _ _ (by rfl) w.heap.size 5 i0 _ 1 1 Tryd.underlying22 hi0 hz0 hz1 hz2 rfl (by omega) v i _ (by rfl) (World.ownsRow.alloc own1 _) ⟨wr.heap.size, 0, none⟩ 1 1 [.int .u8 ((hx.toNat : Nat) : Int)] (by rfl) (by rfl) (cell_one_new _ _ _) (by simp [Value.oneCell']) (by omega) (by unfold maxLen; omega) (by omega) (by simp; omega) (wr.heap.size + 1) (by simp) ?_; intro g cap w2 hown2 hgrow hat hlt2)
      refine ⟨⟨i + 1, _, by have := HK.out; congr 1; push_cast; omega, by omega, rfl, ?_, ?_⟩, by simp [intOf]; omega⟩
      · rw [HST.out]; exact own_snocU (hexN_len z i) hown2
      · exact (HBE.out.alloc HBE.out.size _).grown hgrow (by have := HBE.out.size; simp; omega) (fun k hk => (HO.out.lt hk).1)
    · obtain rfl : i = 8 := by omega
      have hstr := hown.str
      clear hown hbel
      go_wp2_with fail
      go_ret
      exact ⟨rfl, HBE.out⟩

theorem commaL_len : ∀ (ps : List (List UInt8)), (∀ p ∈ ps, p.length = 8) → ps ≠ [] → (commaL ps).length = 9 * ps.length - 1
  | [], _, h => absurd rfl h
  | p :: ps, hp, _ => by
    have h1 := hp p (by simp)
    have h2 : ∀ (qs : List (List UInt8)), (∀ q ∈ qs, q.length = 8) → (qs.flatMap fun q => (44 : UInt8) :: q).length = 9 * qs.length := by
      intro qs hq
      induction qs with
      | nil => rfl
      | cons q qs ih =>
        rw [List.flatMap_cons, List.length_append, ih fun x hx => hq x (by simp [hx]), List.length_cons, List.length_cons, hq q (by simp)]; omega
    show (p ++ ps.flatMap _).length = _
    rw [List.length_append, h1, h2 ps fun q hq => hp q (by simp [hq]), List.length_cons]; omega
theorem numT_len {bs : List Nat} (h : bs ≠ []) : (numT bs).length = 9 * bs.length - 1 := by
  unfold numT
  rw [commaL_len _ (fun p hp => by obtain ⟨b, _, rfl⟩ := List.mem_map.1 hp; exact hexL_len _) (by simpa using h), List.length_map]
theorem numT_le (bs : List Nat) : (numT bs).length ≤ 9 * bs.length + 4 := by
  by_cases h : bs = []
  · rw [h]; simp [numT, commaL]
  · rw [numT_len h]; omega
theorem numT_one (b : Nat) : numT [b] = hexL (fl b) := by unfold numT commaL; simp
theorem numT_snoc {bs : List Nat} (h : bs ≠ []) (b : Nat) : numT (bs ++ [b]) = numT bs ++ 44 :: hexL (fl b) := by
  match bs, h with
  | c :: cs, _ =>
    unfold numT
    rw [List.cons_append, List.map_cons, List.map_append, List.map_cons, List.map_nil, List.map_cons, commaL_snoc]
theorem ba_appT (s t : ByteArray) : (s ++ t).data.toList = s.data.toList ++ t.data.toList := by rw [ByteArray.data_append, Array.toList_append]
theorem ba_sizeT (s : ByteArray) : s.data.toList.length = s.size := by rw [Array.length_toList]; rfl
theorem ba_ofT {s : ByteArray} {l : List UInt8} (h : s.data.toList = l) : s = ⟨l.toArray⟩ := by
  apply ByteArray.ext; apply Array.ext'; rw [h]
theorem take_last {bs : List Nat} {i : Nat} (h : i < bs.length) : bs.take (i + 1) = bs.take i ++ [bs.getD i 0] := by
  rw [List.take_succ_eq_append_getElem h, getD_of2 _ _ h]

set_option maxHeartbeats 1000000 in
theorem s01NText_any (w : World) (sa : Option Addr) (n c : Nat) (bs : List Nat) (h : SlF w (.slice sa n c) bs) (hn : bs.length = n) (hl : n ≤ 2048) :
    Calls Tryd.prog 40 #[.slice sa n c] w fun e w' => e = .returned (.string ⟨(numT bs).toArray⟩) ∧ Below w.heap.size w w' := by
  have HS := Lib.hid h
  have HN := Lib.hid hn
  by_cases h0 : n = 0
  · subst h0
    have hb : bs = [] := List.length_eq_zero_iff.1 hn
    rw [hb]
    clear h hn hb
    go_enter Tryd.func40, Tryd.ntmps40
    go_wp2_with fail
    go_ret
    exact ⟨rfl, Below.refl _ _⟩
  · obtain ⟨b1, o1, _, q1, hb1l, hcell⟩ := h.form (by intro e; rw [e] at hn; simp at hn; omega)
    simp only [Value.slice.injEq] at q1
    obtain ⟨rfl, _⟩ := q1
    have k0 := cellAt2 h 0 (by omega)
    have KH := Lib.hid (fun W b (hb : b < 4294967296) => s01Hex_any W b hb)
    have hg0 : ((n : Int) == 0) = false := by simp; omega
    have hn0 : ¬ (n : Int) = 0 := by omega
    have hlt0 : (0 : Int) < (n : Int) := by omega
    obtain ⟨c0, hc0⟩ : ∃ c0, bs.getD 0 0 = c0 := ⟨_, rfl⟩
    rw [hc0] at k0
    have k1 := k0.1
    rw [Nat.add_zero] at k1
    have HK0 := Lib.hid (And.intro k0.2 hc0)
    clear h hn hcell k0 hc0
    go_enter Tryd.func40, Tryd.ntmps40
    go_wp2_with fail
    clear k1
    refine (KH.out _ _ HK0.out.1).mono ?_
    rintro e w1 ⟨rfl, hb1⟩
    have HB1 := Lib.hid hb1
    have hone : numT (bs.take 1) = hexL (fl c0) := by
      rw [show (1 : Nat) = 0 + 1 from rfl, take_last (by rw [HN.out]; omega), List.take_zero, List.nil_append, HK0.out.2, numT_one]
    rw [← hone]
    have h1n : 1 ≤ n := by omega
    clear hb1 hone
    go_wp2_with fail
    go_loopw [3, 4] (fun v3 v4 wr => ∃ i : Nat, v4 = .int .i64 i ∧ 1 ≤ i ∧ i ≤ n ∧ v3 = .string ⟨(numT (bs.take i)).toArray⟩ ∧ Below w.heap.size w wr) (fun _ v4 _ => n - (intOf v4).toNat)
    case atStart => exact ⟨1, rfl, Nat.le_refl _, h1n, rfl, HB1.out⟩
    case round =>
      clear HB1
      obtain ⟨i, rfl, hi1, hi, rfl, hb⟩ := hrel
      obtain ⟨t, ht⟩ : ∃ t : ByteArray, (⟨(numT (bs.take i)).toArray⟩ : ByteArray) = t := ⟨_, rfl⟩
      have htl : t.data.toList = numT (bs.take i) := by rw [← ht]
      have hne : bs.take i ≠ [] := by
        intro e
        have := congrArg List.length e
        rw [List.length_take, HN.out] at this; simp at this; omega
      have hts : t.size ≤ 9 * 2048 := by
        rw [← ba_sizeT, htl]
        have := numT_le (bs.take i)
        rw [List.length_take, HN.out] at this
        have h9 : (numT (bs.take i)).length = 9 * (bs.take i).length - 1 := numT_len hne
        rw [List.length_take, HN.out] at h9
        omega
      rw [ht]
      have HT := Lib.hid (And.intro htl hne)
      clear htl hne ht
      by_cases hlt : i < n
      · have kk := cellAt2 (HS.out.below hb) i (by rw [HN.out]; exact hlt)
        obtain ⟨c1, hc1⟩ : ∃ c0, bs.getD i 0 = c0 := ⟨_, rfl⟩
        rw [hc1] at kk
        have k1 := kk.1
        have hltI : (i : Int) < (n : Int) := by omega
        have HK := Lib.hid (And.intro kk.2 hc1)
        have HB := Lib.hid hb
        clear kk hc1 hb
        go_wp2_with fail
        clear k1
        refine (KH.out _ _ HK.out.1).mono ?_
        rintro e w2 ⟨rfl, hb2⟩
        obtain ⟨u, hu⟩ : ∃ u : ByteArray, (⟨(hexL (fl c1)).toArray⟩ : ByteArray) = u := ⟨_, rfl⟩
        have hul : u.data.toList = hexL (fl c1) := by rw [← hu]
        have hus : u.size = 8 := by rw [← ba_sizeT, hul, hexL_len]
        rw [hu]
        have hfin : t ++ ((⟨#[44]⟩ : ByteArray) ++ u) = ⟨(numT (bs.take (i + 1))).toArray⟩ := by
          apply ba_ofT
          rw [ba_appT, ba_appT, HT.out.1, hul, take_last (by rw [HN.out]; exact hlt), HK.out.2, numT_snoc HT.out.2]; rfl
        have hcs : (⟨#[44]⟩ : ByteArray).size = 1 := rfl
        have h9a : (9223372036854775807 < (⟨#[44]⟩ : ByteArray).size + u.size) = False := eq_false (by rw [hcs, hus]; omega)
        have hsz2 : ((⟨#[44]⟩ : ByteArray) ++ u).size = 9 := by rw [ByteArray.size_append, hcs, hus]
        have h9b : (9223372036854775807 < t.size + ((⟨#[44]⟩ : ByteArray) ++ u).size) = False := eq_false (by rw [hsz2]; omega)
        have HF := Lib.hid (And.intro hfin (HB.out.trans (hb2.mono HB.out.size)))
        clear hfin hb2 hul hu
        go_wp2_with fail
        go_roundw
        case rel => exact ⟨i + 1, by go_num, by omega, by omega, by rw [← HF.out.1], HF.out.2⟩
        case measure => simp [intOf]; omega
      · obtain rfl : n = i := by omega
        have hall : t = ⟨(numT bs).toArray⟩ := by
          apply ba_ofT
          rw [HT.out.1, ← HN.out, List.take_length]
        have HA := Lib.hid hall
        clear hall
        go_wp2_with fail
        go_ret
        exact ⟨by rw [← HA.out]; rfl, hb⟩

end Go.Proofs.YtmcmcppleikajaaDoor
