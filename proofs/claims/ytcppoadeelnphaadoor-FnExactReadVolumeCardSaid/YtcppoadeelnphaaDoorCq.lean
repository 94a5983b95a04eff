/- The reference's reading of a list of numbers: spec.l01NRead. -/
import Derived.Test.YtcppoadeelnphaaDoorCp
import Derived.Test.YtcppoadeelnphaaDoorMem
import Derived.Test.YtcppoadeelnphaaDoorNum
namespace Go.Proofs.YtcppoadeelnphaaDoor
open Go.RowKit
set_option maxRecDepth 100000
set_option linter.unusedVariables false
set_option linter.unusedSimpArgs false

theorem info_flt : (Tryd.prog.info? 64).map (fun i => (i.zero, i.size, i.bytes)) = some (some (.float .f32 0), 1, 4) := by kernel_rfl
def fCells (bs : List Nat) : List Value := bs.map (Value.float .f32)
theorem OwnF.start (w : World) (B : Nat) (hB : B ≤ w.heap.size) : OwnF (w.alloc (.cells #[] 64)) B (.slice (some ⟨w.heap.size, 0, none⟩) 0 0) [] :=
  ⟨⟨rfl, .inr ⟨w.heap.size, 0, #[], rfl, hB, heap_alloc_new w _, Nat.le_refl _, by unfold maxLen; omega, rfl, rfl⟩⟩, by simp⟩
theorem own_snocF {w : World} {B n gg cap : Nat} {bs : List Nat} {b : Nat} (hl : bs.length = n) (hb : ∀ x ∈ bs, x < 4294967296) (hb2 : b < 4294967296) (h : w.ownsRow B 64 1 (.slice (some ⟨gg, 0, none⟩) (n + 1) cap) (n + 1) (fCells bs ++ [.float .f32 b])) :
    OwnF w B (.slice (some ⟨gg, 0, none⟩) (n + 1) cap) (bs ++ [b]) := by
  subst hl
  refine ⟨?_, fun x hx => ?_⟩
  · rw [List.length_append, List.length_singleton, List.map_append]; exact h
  · rcases List.mem_append.1 hx with h | h
    · exact hb x h
    · simp at h; rw [h]; exact hb2
/-- What a reading of a list gives: the numbers in memory of one's own, or nothing. -/
def ReadF (w : World) (e : Ending) (w' : World) (r : List Nat × Bool) : Prop := ∃ sa c, e = .returned (.tuple #[.slice sa r.1.length c, .bool r.2]) ∧ (r.2 = true → OwnF w' w.heap.size (.slice sa r.1.length c) r.1) ∧ Below w.heap.size w w'
theorem valH_lt {p : List UInt8} : (valH p).1 < 4294967296 := by
  unfold valH
  split
  · rename_i n h
    split
    · rename_i h2
      have := accH_lt p 0 0 n (by simp) h
      rw [h2.1] at this
      simpa using this
    · simp
  · simp
theorem byteN_get {q : ByteArray} {p : List UInt8} (h : (⟨p.toArray⟩ : ByteArray) = q) {k : Nat} (hk : k < p.length) : byteN q k = (p.getD k 0).toNat := by
  subst h; rfl
theorem take_snocU {p : List UInt8} {k : Nat} (h : k < p.length) : p.take (k + 1) = p.take k ++ [p.getD k 0] := by
  rw [List.take_succ_eq_append_getElem h, List.getD_eq_getElem?_getD, List.getElem?_eq_getElem h]; rfl
theorem getD_memU {p : List UInt8} {k : Nat} (h : k < p.length) : p.getD k 0 ∈ p := by
  rw [List.getD_eq_getElem?_getD, List.getElem?_eq_getElem h]; exact List.getElem_mem _

set_option maxHeartbeats 2000000 in
theorem s01NRead_any (w : World) (s : ByteArray) (hs : s.size ≤ 2000000) :
    Calls Tryd.prog 39 #[.string s] w fun e w' => ReadF w e w' (numR s.data.toList) := by
  obtain ⟨j0, hj0, hy0, hy1, hy2⟩ := info_parts info_flt
  have HO0 := Lib.hid (OwnF.start w w.heap.size (Nat.le_refl _))
  have hb0 : Below w.heap.size w (w.alloc (.cells #[] 64)) := (Below.refl _ _).alloc (Nat.le_refl _) _
  have HB0 := Lib.hid hb0
  clear hb0
  by_cases hno : s.data.toList = noneT
  · have hr : numR s.data.toList = ([], true) := by unfold numR; rw [if_pos hno]
    rw [hr]
    have hs2 : s = ⟨noneT.toArray⟩ := ba_of hno
    subst hs2
    clear hr hno hs
    go_enter Tryd.func39, Tryd.ntmps39
    go_wp2_with fail
    go_ret2
    exact ⟨_, _, rfl, fun _ => HO0.out, HB0.out⟩
  · have hne : (s.toList == [110, 111, 110, 101]) = false := by
      rw [beq_eq_false_iff_ne, ba_toList]; exact hno
    have KC := Lib.hid (fun W => s01Cut_any W s 44 hs)
    rw [show (((44 : UInt8).toNat : Nat) : Int) = 44 from rfl] at KC
    have hmem := fun p => cutL_mem_le (c := 44) s.data.toList p
    rw [ba_size] at hmem
    obtain ⟨r, hr⟩ : ∃ r, r = numR s.data.toList := ⟨_, rfl⟩
    rw [← hr]
    have hr2 : r = if (cutL 44 s.data.toList).length ≤ 256 ∧ (cutL 44 s.data.toList).all (fun p => (valH p).2) = true then ((cutL 44 s.data.toList).map fun p => (valH p).1, true) else ([], false) := by
      rw [hr]; unfold numR; rw [if_neg hno]
    obtain ⟨P, hP⟩ : ∃ P, P = cutL 44 s.data.toList := ⟨_, rfl⟩
    rw [← hP] at KC hmem hr2
    obtain ⟨n, hn⟩ : ∃ n, P.length = n := ⟨_, rfl⟩
    have HR := Lib.hid hr2
    have HM := Lib.hid (fun p hp => Nat.le_trans (hmem p hp) hs)
    have HN := Lib.hid hn
    have hn2 : n ≤ 2000001 := by
      have := cutL_count 44 s.data.toList
      rw [← hP, hn, ba_size] at this
      omega
    rw [hn] at KC
    clear hr hr2 hP hmem hno hs hn
    by_cases h256 : n ≤ 256
    · have hg : decide ((256 : Int) < (n : Int)) = false := decide_eq_false (by omega)
      clear hn2
      go_enter Tryd.func39, Tryd.ntmps39
      go_wp2_with fail
      refine (KC.out _).mono ?_
      rintro e w1 ⟨g, cap, rfl, hst, hb⟩
      have hgg : w.heap.size ≠ g := by have := (hst.lt (k := g) rfl).1; simp at this; omega
      have HST := Lib.hid (And.intro hst (And.intro hgg (HB0.out.trans (hb.mono HB0.out.size))))
      have HO1 := Lib.hid (HO0.out.below hb)
      clear hgg
      clear hst hb KC HO0 HB0
      go_wp2_with fail
      go_loopw [4, 6] (fun v4 v6 wr => ∃ (i g4 cap4 : Nat), v6 = .int .i64 i ∧ i ≤ n ∧ v4 = .slice (some ⟨g4, 0, none⟩) i cap4 ∧ g4 ≠ g ∧ (∀ j, j < i → (valH (P.getD j [])).2 = true) ∧ OwnF wr w.heap.size (.slice (some ⟨g4, 0, none⟩) i cap4) ((P.take i).map fun p => (valH p).1) ∧ OwnS wr (w.alloc (.cells #[] 64)).heap.size (.slice (some ⟨g, 0, none⟩) n cap) P ∧ Below w.heap.size w wr) (fun _ v6 _ => n - (intOf v6).toNat)
      case atStart => exact ⟨0, _, _, rfl, Nat.zero_le _, rfl, HST.out.2.1, fun j hj => absurd hj (Nat.not_lt_zero _), HO1.out, HST.out.1, HST.out.2.2⟩
      case round =>
        clear HO1
        obtain ⟨i, g4, cap4, rfl, hi, rfl, hng, hok, hown, hst, hb⟩ := hrel
        have HB := Lib.hid hb
        have HS := Lib.hid hst
        have HOW := Lib.hid hown
        have HOK := Lib.hid hok
        have HNG := Lib.hid hng
        by_cases hlt : i < n
        · have hltI : (i : Int) < (n : Int) := by omega
          have c1 := strAt hst i (by rw [HN.out]; exact hlt)
          have hsz := HM.out _ (getD_mem (P := P) (i := i) (by rw [HN.out]; exact hlt))
          have htk := take_snocP (P := P) (i := i) (by rw [HN.out]; exact hlt)
          have hbn := hb.size
          have hgl := (hst.lt (k := g) rfl).2
          have hPm := getD_mem (P := P) (i := i) (by rw [HN.out]; exact hlt)
          obtain ⟨p, hp⟩ : ∃ p, P.getD i [] = p := ⟨_, rfl⟩
          rw [hp] at c1 hsz htk hPm
          have HTK := Lib.hid htk
          have HP := Lib.hid (And.intro hp hPm)
          obtain ⟨q, hq⟩ : ∃ q : ByteArray, (⟨p.toArray⟩ : ByteArray) = q := ⟨_, rfl⟩
          rw [hq] at c1
          have hrow : wr.ownsRow w.heap.size 64 1 (.slice (some ⟨g4, 0, none⟩) i cap4) i (fCells ((P.take i).map fun p => (valH p).1)) := by
            have h9 := hown.1
            rwa [List.length_map, List.length_take, HN.out, Nat.min_eq_left hi] at h9
          have HROW := Lib.hid hrow
          have hqs : q.size = p.length := by rw [← hq]; exact (ba_size _).symm
          by_cases h8 : p.length = 8
          · rw [h8] at hqs
            have HQ8 := Lib.hid (And.intro h8 hqs)
            have HQ := Lib.hid hq
            clear hok hown hb hsz htk hp hPm hq hrow hst hng h8
            go_wp2_with fail
            go_loopw [7, 8, 9, 10] (fun v7 v8 _ _ wq => ∃ (k m : Nat), v8 = .int .i64 k ∧ k ≤ 8 ∧ v7 = .int .i64 m ∧ m < 4294967296 ∧ Hid (accH (p.take k) 0 = some m) ∧ wq = wr) (fun _ v8 _ _ _ => 8 - (intOf v8).toNat)
            case atStart => exact ⟨0, 0, rfl, by omega, rfl, by omega, rfl, rfl⟩
            case round =>
              obtain ⟨k, m, rfl, hk, rfl, hm, HM2, rfl⟩ := hrel
              by_cases hk8 : k < 8
              · have hkI : (k : Int) < 8 := by omega
                have hmI : (m : Int) < 4294967296 := by omega
                have hx0 : ∀ W', (Instr.index 9 (.string q) (.int .i64 (k : Int))).run Tryd.prog W' = .ok (.int .u8 ((byteN q k : Nat) : Int)) W' := fun W' => by
                  have := idx_at W' q (k : Int) (by omega) (by rw [hqs]; omega)
                  rwa [Int.toNat_natCast] at this
                have hb := byteN_lt q k
                have hbc := byteN_get HQ.out (k := k) (by rw [HQ8.out.1]; exact hk8)
                have hpm := getD_memU (p := p) (k := k) (by rw [HQ8.out.1]; exact hk8)
                obtain ⟨b, hbb⟩ : ∃ b, byteN q k = b := ⟨_, rfl⟩
                rw [hbb] at hx0 hb hbc
                have hbI : (b : Int) < 256 := by omega
                clear hbb
                by_cases gA : 48 ≤ b ∧ b ≤ 57
                · obtain ⟨gA1, gA2⟩ := gA
                  have hv : hexV b = some (b - 48) := by unfold hexV; rw [if_pos ⟨gA1, gA2⟩]
                  have wb : IntKind.u8.wrap ((b : Int) - 48) = ((b - 48 : Nat) : Int) := by
                    simp [IntKind.wrap, IntKind.bits, IntKind.signed]; omega
                  have hdd : b - 48 < 16 := by omega
                  obtain ⟨d, hd⟩ : ∃ d, b - 48 = d := ⟨_, rfl⟩
                  rw [hd] at wb hv hdd
                  have g1I : (48 : Int) ≤ (b : Int) := by omega
                  have g2I : (b : Int) ≤ 57 := by omega
                  have g3I : ¬ (97 : Int) ≤ (b : Int) := by omega
                  clear hd
                  have hm2 : accH (p.take (k + 1)) 0 = some (16 * m + d) := by
                    rw [take_snocU (by rw [HQ8.out.1]; exact hk8), accH_snoc, HM2.out]
                    simp only [Option.bind_some]
                    rw [← hbc, hv]
                    rfl
                  have hlt2 := accH_lt _ 0 0 _ (by simp) hm2
                  rw [List.length_take, HQ8.out.1, Nat.min_eq_left (by omega)] at hlt2
                  have hlt3 : 16 * m + d < 4294967296 := Nat.lt_of_lt_of_le hlt2 (Nat.le_trans (Nat.pow_le_pow_right (by omega) (show 0 + (k + 1) ≤ 8 by omega)) (by decide))
                  have HM3 := Lib.hid (And.intro hm2 hlt3)
                  have hd16 : (d : Int) < 16 := by omega
                  have hd0 : decide ((d : Int) < 0) = false := decide_eq_false (by omega)
                  clear hm2 hlt2 hlt3 hv hbc HM2 hm hpm HQ8
                  go_wp2_with fail
                  go_roundw
                  case rel => exact ⟨k + 1, 16 * m + d, by go_num, by omega, by push_cast; rfl, HM3.out.2, HM3.out.1, trivial⟩
                  case measure => simp [intOf]; omega
                · by_cases gB : 97 ≤ b ∧ b ≤ 102
                  · obtain ⟨gB1, gB2⟩ := gB
                    have hv : hexV b = some (b - 97 + 10) := by unfold hexV; rw [if_neg gA, if_pos ⟨gB1, gB2⟩]; congr 1; omega
                    have wb : IntKind.u8.wrap ((b : Int) - 97) = ((b - 97 : Nat) : Int) := by
                      simp [IntKind.wrap, IntKind.bits, IntKind.signed]; omega
                    have hdd : b - 97 < 6 := by omega
                    obtain ⟨e, he⟩ : ∃ e, b - 97 = e := ⟨_, rfl⟩
                    rw [he] at wb hv hdd
                    have heI : (e : Int) < 6 := by omega
                    obtain ⟨d, hd⟩ : ∃ d, e + 10 = d := ⟨_, rfl⟩
                    rw [hd] at hv
                    have hdI : (e : Int) + 10 = (d : Int) := by omega
                    have g1I : (97 : Int) ≤ (b : Int) := by omega
                    have g2I : (b : Int) ≤ 102 := by omega
                    have g3I : (48 : Int) ≤ (b : Int) := by omega
                    have g4I : ¬ (b : Int) ≤ 57 := by omega
                    clear hd he gA
                    have hm2 : accH (p.take (k + 1)) 0 = some (16 * m + d) := by
                      rw [take_snocU (by rw [HQ8.out.1]; exact hk8), accH_snoc, HM2.out]
                      simp only [Option.bind_some]
                      rw [← hbc, hv]
                      rfl
                    have hlt2 := accH_lt _ 0 0 _ (by simp) hm2
                    rw [List.length_take, HQ8.out.1, Nat.min_eq_left (by omega)] at hlt2
                    have hlt3 : 16 * m + d < 4294967296 := Nat.lt_of_lt_of_le hlt2 (Nat.le_trans (Nat.pow_le_pow_right (by omega) (show 0 + (k + 1) ≤ 8 by omega)) (by decide))
                    have HM3 := Lib.hid (And.intro hm2 hlt3)
                    have hd16 : (d : Int) < 16 := by omega
                    have hd0 : decide ((d : Int) < 0) = false := decide_eq_false (by omega)
                    clear hm2 hlt2 hlt3 hv hbc HM2 hm hpm HQ8
                    go_wp2_with fail
                    go_roundw
                    case rel => exact ⟨k + 1, 16 * m + d, by go_num, by omega, by push_cast; rfl, HM3.out.2, HM3.out.1, trivial⟩
                    case measure => simp [intOf]; omega
                  · have hv : hexV b = none := by unfold hexV; rw [if_neg gA, if_neg gB]
                    have hvf : (valH p).2 = false := by
                      unfold valH
                      rw [accH_bad p 0 _ hpm (by rw [← hbc]; exact hv)]
                    have HVF := Lib.hid hvf
                    have hrr : r = ([], false) := by
                      rw [HR.out, if_neg]
                      rintro ⟨-, h2⟩
                      rw [List.all_eq_true] at h2
                      have := h2 _ HP.out.2
                      rw [HVF.out] at this; cases this
                    subst hrr
                    have HF := HB
                    clear hvf hv hbc hpm
                    have hA : ¬ ((48 : Int) ≤ (b : Int) ∧ (b : Int) ≤ 57) := by omega
                    have hB : ¬ ((97 : Int) ≤ (b : Int) ∧ (b : Int) ≤ 102) := by omega
                    clear gA gB
                    by_cases q1 : b < 48
                    · have z1 : ¬ (48 : Int) ≤ (b : Int) := by omega
                      have z2 : ¬ (97 : Int) ≤ (b : Int) := by omega
                      clear hA hB
                      go_wp2_with fail
                      go_ret2
                      exact ⟨none, 0, rfl, fun h => (by cases h), HF.out⟩
                    · have z1 : (48 : Int) ≤ (b : Int) := by omega
                      have z3 : ¬ (b : Int) ≤ 57 := by omega
                      by_cases q2 : b < 97
                      · have z2 : ¬ (97 : Int) ≤ (b : Int) := by omega
                        clear hA hB
                        go_wp2_with fail
                        go_ret2
                        exact ⟨none, 0, rfl, fun h => (by cases h), HF.out⟩
                      · have z2 : (97 : Int) ≤ (b : Int) := by omega
                        have z4 : ¬ (b : Int) ≤ 102 := by omega
                        clear hA hB
                        go_wp2_with fail
                        go_ret2
                        exact ⟨none, 0, rfl, fun h => (by cases h), HF.out⟩
              · obtain rfl : k = 8 := by omega
                have htk8 : p.take 8 = p := List.take_of_length_le (by rw [HQ8.out.1]; exact Nat.le_refl _)
                have hmI : (m : Int) < 4294967296 := by omega
                have hmI2 : (m : Int) ≤ 4294967295 := by omega
                have hvv : valH p = if fl m = m then (m, true) else (0, false) := by
                  unfold valH
                  have := HM2.out
                  rw [htk8] at this
                  rw [this]
                  simp only [HQ8.out.1, true_and]
                have KF := Lib.hid (fun W => s01From_any (m : Int) W (by omega) hmI2)
                rw [Int.toNat_natCast] at KF
                have KB := Lib.hid (fun W => s01Bits_any m W hm)
                by_cases hfm : fl m = m
                · have hv2 : valH p = (m, true) := by rw [hvv, if_pos hfm]
                  have HV := Lib.hid hv2
                  rw [hfm] at KB
                  have hmm : ((m : Int) != (m : Int)) = false := by simp
                  have HMM := Lib.hid hm
                  have HII := Lib.hid (And.intro hi hlt)
                  clear hvv hv2 hfm htk8 HM2 hm hmI hmI2 hk hlt hi
                  go_wp2_with fail
                  refine (KF.out _).mono ?_
                  rintro e w1 ⟨rfl, rfl⟩
                  go_wp2_with fail
                  refine (KB.out _).mono ?_
                  rintro e w1 ⟨rfl, rfl⟩
                  have hb9 := HB.out.size
                  go_wp2_with (at_builtin; refine wpList_append_lies _ (by rfl) _ _ _ (by rfl) w.heap.size 64 j0 _ 1 4 Tryd.underlying22 hj0 hy0 hy1 hy2 rfl (by omega) (.slice (some ⟨g4, 0, none⟩) i cap4) i _ (by rfl) (World.ownsRow.alloc HROW.out _) ⟨wr.heap.size, 0, none⟩ 1 1 [.float .f32 m] (by rfl) (by rfl) (cell_one_new _ _ _) (by simp [Value.oneCell']) (by omega) (by unfold maxLen; omega) (by omega) (by simp; omega) (wr.heap.size + 1) (by simp) ?_; intro g3 cap3 w3 hown3 hgrow hat hltg)
                  have hrel3 : OwnF w3 w.heap.size (.slice (some ⟨g3, 0, none⟩) (i + 1) cap3) ((P.take (i + 1)).map fun p => (valH p).1) := by
                    rw [HTK.out, List.map_append, List.map_singleton, HV.out]
                    exact own_snocF (by rw [List.length_map, List.length_take, HN.out, Nat.min_eq_left HII.out.1]) HOW.out.2 HMM.out hown3
                  have hbw : Below w.heap.size w w3 := (HB.out.alloc HB.out.size _).grown hgrow (by have := HB.out.size; simp; omega) (fun k' hk => (HOW.out.lt hk).1)
                  have hs3 : OwnS w3 (w.alloc (.cells #[] 64)).heap.size (.slice (some ⟨g, 0, none⟩) n cap) P := World.ownsRow.kept (World.ownsRow.alloc HS.out _) hgrow (.inr (by simp [Value.ownBlock]; exact fun h => HNG.out h.symm))
                  have hng3 : g3 ≠ g := by
                    rcases hat with h | h
                    · simp [Value.ownBlock] at h
                      rw [← h]; exact HNG.out
                    · rw [h]; omega
                  have HR3 := Lib.hid (And.intro hrel3 (And.intro hbw (And.intro hs3 hng3)))
                  clear hrel3 hbw hs3 hng3 hown3 hgrow hat
                  go_wp2_with fail
                  go_roundw
                  case rel => exact ⟨i + 1, g3, cap3, by go_num, HII.out.2, rfl, HR3.out.2.2.2, fun j hj => by
                      rcases Nat.lt_or_ge j i with h | h
                      · exact HOK.out j h
                      · obtain rfl : j = i := by omega
                        rw [HP.out.1, HV.out], HR3.out.1, HR3.out.2.2.1, HR3.out.2.1⟩
                  case measure => simp [intOf]; omega
                · have hvf : (valH p).2 = false := by rw [hvv, if_neg hfm]
                  have HVF := Lib.hid hvf
                  have hrr : r = ([], false) := by
                    rw [HR.out, if_neg]
                    rintro ⟨-, h2⟩
                    rw [List.all_eq_true] at h2
                    have := h2 _ HP.out.2
                    rw [HVF.out] at this; cases this
                  subst hrr
                  have HF := HB
                  obtain ⟨z, hz⟩ : ∃ z, fl m = z := ⟨_, rfl⟩
                  rw [hz] at KB hfm
                  have hmm : ((z : Int) != (m : Int)) = true := by simp; omega
                  clear hvv hvf hfm htk8 HM2 hz
                  go_wp2_with fail
                  refine (KF.out _).mono ?_
                  rintro e w1 ⟨rfl, rfl⟩
                  go_wp2_with fail
                  refine (KB.out _).mono ?_
                  rintro e w1 ⟨rfl, rfl⟩
                  go_wp2_with fail
                  go_ret2
                  exact ⟨none, 0, rfl, fun h => (by cases h), HF.out⟩
          · have hnq : ((q.size : Int) != 8) = true := by rw [hqs]; simp; omega
            have hvf : (valH p).2 = false := by
              unfold valH
              split
              · rw [if_neg (fun h => h8 h.1)]
              · rfl
            have HVF := Lib.hid hvf
            have hrr : r = ([], false) := by
              rw [HR.out, if_neg]
              rintro ⟨-, h2⟩
              rw [List.all_eq_true] at h2
              have := h2 _ HP.out.2
              rw [HVF.out] at this; cases this
            subst hrr
            clear hok hown hb hsz htk hp hPm hq hrow hst hng hvf hqs h8
            have HF := HB
            go_wp2_with fail
            go_ret2
            exact ⟨none, 0, rfl, fun h => (by cases h), HF.out⟩
        · obtain rfl : i = n := by omega
          have hall : P.all (fun p => (valH p).2) = true := by
            rw [List.all_eq_true]
            intro x hx
            obtain ⟨j, hj, rfl⟩ := List.getElem_of_mem hx
            have := hok j (by rw [← HN.out]; exact hj)
            rwa [List.getD_eq_getElem?_getD, List.getElem?_eq_getElem hj] at this
          have hrr : r = (P.map fun p => (valH p).1, true) := by
            rw [HR.out, if_pos ⟨by rw [HN.out]; exact h256, hall⟩]
          rw [List.take_of_length_le (by rw [HN.out]; exact Nat.le_refl _)] at hown
          have hF : ReadF w (.returned (.tuple #[.slice (some ⟨g4, 0, none⟩) i cap4, .bool true])) wr r := by
            rw [hrr]
            refine ⟨some ⟨g4, 0, none⟩, cap4, ?_, fun _ => ?_, hb⟩
            · rw [List.length_map, HN.out]
            · show OwnF _ _ (.slice _ (P.map fun p => (valH p).1).length _) _
              rw [List.length_map, HN.out]; exact hown
          have HF := Lib.hid hF
          clear hall hrr hown hF hb hst hok hng HB HS HOW HOK HNG
          go_wp2_with fail
          go_ret2
          exact HF.out
    · have hrr : r = ([], false) := by rw [HR.out, if_neg (fun h => h256 (by rw [← HN.out]; exact h.1))]
      subst hrr
      have hg : decide ((256 : Int) < (n : Int)) = true := decide_eq_true (by omega)
      go_enter Tryd.func39, Tryd.ntmps39
      go_wp2_with fail
      refine (KC.out _).mono ?_
      rintro e w1 ⟨g, cap, rfl, hst, hb⟩
      have HF := Lib.hid (HB0.out.trans (hb.mono HB0.out.size))
      clear hst hb
      go_wp2_with fail
      go_ret2
      exact ⟨none, 0, rfl, fun h => (by cases h), HF.out⟩

end Go.Proofs.YtcppoadeelnphaaDoor
