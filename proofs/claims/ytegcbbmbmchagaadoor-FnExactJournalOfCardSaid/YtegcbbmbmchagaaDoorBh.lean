/- The exact laws' functions on lists of strings: eqStringS, markText, markStringS, heldStringS. -/
import Derived.Test.YtegcbbmbmchagaaDoorBc
import Derived.Test.YtegcbbmbmchagaaDoorDc
import Derived.Lib.ItoaMem
import Derived.Lib.ItoaLen
namespace Go.Proofs.YtegcbbmbmchagaaDoor
open Go.RowKit
set_option maxRecDepth 100000
set_option linter.unusedVariables false
set_option linter.unusedSimpArgs false

/-- A slice that reads as strings. -/
def SV (w : World) (v : Value) (P : List (List UInt8)) : Prop := (∃ g c, v = .slice (some ⟨g, 0, none⟩) P.length c ∧ StrAt w g P) ∨ (∃ a c, v = .slice a 0 c ∧ P = [])
theorem OwnS.form {w : World} {B : Nat} {v : Value} {P : List (List UInt8)} (h : OwnS w B v P) : (v = .slice none 0 0 ∧ P = []) ∨ ∃ g c, v = .slice (some ⟨g, 0, none⟩) P.length c := by
  rcases h.2 with ⟨h1, h2⟩ | ⟨g, cap, cur, h1, _⟩
  · exact .inl ⟨h1, List.length_eq_zero_iff.1 h2⟩
  · exact .inr ⟨g, cap, h1⟩
theorem OwnS.sv {w : World} {B : Nat} {v : Value} {P : List (List UInt8)} (h : OwnS w B v P) : SV w v P := by
  rcases h.form with ⟨rfl, rfl⟩ | ⟨g, c, rfl⟩
  · exact .inr ⟨none, 0, rfl, rfl⟩
  · exact .inl ⟨g, c, rfl, h.strAt⟩
theorem OwnS.nil (w : World) (B : Nat) : OwnS w B (.slice none 0 0) [] := World.ownsRow_nil w B _ _

set_option maxHeartbeats 1000000 in
theorem eqS_any (w : World) (v1 v2 : Value) (P : List (List UInt8)) (h1 : SV w v1 P) (h2 : SV w v2 P) (hl : P.length ≤ 9223372036854775807) :
    Calls Tryd.prog 12 #[v1, v2] w fun e w' => e = .returned (.bool true) ∧ ∃ q, w' = w.drewN q := by
  obtain ⟨n, hn⟩ : ∃ n, P.length = n := ⟨_, rfl⟩
  obtain ⟨a1, c1, rfl⟩ : ∃ a c, v1 = .slice a n c := by
    rcases h1 with ⟨g, c, e, -⟩ | ⟨a, c, e, e2⟩
    · exact ⟨_, _, by rw [e, hn]⟩
    · exact ⟨_, _, by rw [e, ← hn, e2]; rfl⟩
  obtain ⟨a2, c2, rfl⟩ : ∃ a c, v2 = .slice a n c := by
    rcases h2 with ⟨g, c, e, -⟩ | ⟨a, c, e, e2⟩
    · exact ⟨_, _, by rw [e, hn]⟩
    · exact ⟨_, _, by rw [e, ← hn, e2]; rfl⟩
  have key : ∀ i, i < n → ∃ g1 g2, a1 = some ⟨g1, 0, none⟩ ∧ a2 = some ⟨g2, 0, none⟩ ∧ w.cell? ⟨g1, i, none⟩ = some (.string ⟨(P.getD i []).toArray⟩) ∧ w.cell? ⟨g2, i, none⟩ = some (.string ⟨(P.getD i []).toArray⟩) := by
    intro i hi
    rcases h1 with ⟨g, c, e, hs⟩ | ⟨a, c, e, e2⟩
    · rcases h2 with ⟨g', c', e', hs'⟩ | ⟨a, c, e', e2'⟩
      · injection e with e _ _
        injection e' with e' _ _
        exact ⟨g, g', e, e', hs.2 i (by rw [hn]; exact hi), hs'.2 i (by rw [hn]; exact hi)⟩
      · rw [e2'] at hn; simp at hn; omega
    · rw [e2] at hn; simp at hn; omega
  have KEY := Lib.hid key
  have hne : ((n : Int) != (n : Int)) = false := by simp
  have hnl : (n : Int) ≤ 9223372036854775807 := by omega
  clear key h1 h2 hl hn
  go_enter Tryd.func12, Tryd.ntmps12
  go_wp2_with fail
  go_loopw [5] (fun v5 wr => ∃ i q : Nat, v5 = .int .i64 i ∧ i ≤ n ∧ wr = w.drewN q) (fun v5 _ => n - (intOf v5).toNat)
  case atStart => exact ⟨0, 0, rfl, Nat.zero_le _, rfl⟩
  case round =>
    obtain ⟨i, q, rfl, hi, rfl⟩ := hrel
    by_cases hlt : i < n
    · have hltI : (i : Int) < (n : Int) := by omega
      obtain ⟨g1, g2, e1, e2, k1, k2⟩ := KEY.out i hlt
      obtain ⟨x, hx⟩ : ∃ x : ByteArray, x = ⟨(P.getD i []).toArray⟩ := ⟨_, rfl⟩
      rw [← hx] at k1 k2
      have k1' : ∀ q, (w.drewN q).cell? ⟨g1, i, none⟩ = some (.string x) := fun _ => k1
      have k2' : ∀ q, (w.drewN q).cell? ⟨g2, i, none⟩ = some (.string x) := fun _ => k2
      have k1q := k1' q
      have k2q := k2' q
      have hxx : (x.toList == x.toList) = true := by simp
      subst e1 e2
      clear hx
      go_wp2_with fail
      go_quiet (fail)
      go_wp2_with fail
      go_roundw
      case rel => exact ⟨i + 1, _, by go_num, by omega, rfl⟩
      case measure => simp [intOf]; omega
    · obtain rfl : n = i := by omega
      go_wp2_with fail
      go_ret
      exact ⟨rfl, _, rfl⟩

/-- The text of a mark. -/
def MT (k : Nat) : List UInt8 := 109 :: Lib.decDigits k
def mkS (k n : Nat) : List (List UInt8) := (List.range n).map fun i => MT (k + i)
theorem mkS_len (k n : Nat) : (mkS k n).length = n := by simp [mkS]
theorem mkS_get {k n i : Nat} (h : i < n) : (mkS k n).getD i [] = MT (k + i) := by
  unfold mkS
  rw [List.getD_eq_getElem?_getD, List.getElem?_map, List.getElem?_range h]; rfl

set_option maxHeartbeats 2000000 in
theorem markText_any (w : World) (k : Nat) (h1 : 1 ≤ k) (h2 : k < 10 ^ 15) :
    Calls Tryd.prog 29 #[.int .i64 k] w fun e w' => e = .returned (.string ⟨(MT k).toArray⟩) ∧ Below w.heap.size w w' := by
  have h0 : ¬ (k : Int) ≤ 0 := by omega
  have hdl : (Lib.decDigits k).length ≤ 21 := by
    have h3 := Lib.itoa_length_le (k : Int) (by omega) (by omega)
    rwa [Lib.itoa_nonneg] at h3
  have HD := Lib.hid hdl
  have HK := Lib.hid (And.intro h1 h2)
  clear h1 h2 hdl
  go_enter Tryd.func29, Tryd.ntmps29
  go_wp2_with fail
  go_loopw [0, 3] (fun v0 v3 wr => ∃ (r : Nat) (t : ByteArray), v0 = .int .i64 r ∧ v3 = .string t ∧ r ≤ k ∧ finD r t.data.toList = Lib.decDigits k ∧ (r = 0 → t.data.toList ≠ []) ∧ Below w.heap.size w wr) (fun v0 _ _ => (intOf v0).toNat)
  case atStart =>
    refine ⟨k, ⟨#[]⟩, rfl, rfl, Nat.le_refl _, ?_, fun e => by have := HK.out.1; omega, Below.refl _ _⟩
    show finD k [] = _
    unfold finD
    rw [if_neg (fun h => h.2 rfl)]; simp
  case round =>
    obtain ⟨r, t, rfl, rfl, hr, hfin, hne, hb⟩ := hrel
    have HB := Lib.hid hb
    have hbs := hb.size
    have htl : t.size ≤ 21 := by
      have h3 := congrArg List.length hfin
      have h4 := HD.out
      rw [← ba_size]
      unfold finD at h3
      split at h3
      · omega
      · rw [List.length_append] at h3; omega
    have htI : (t.size : Int) ≤ 21 := by omega
    have hkI : (k : Int) < 1000000000000000 := by have := HK.out.2; omega
    by_cases h0 : 0 < r
    · have h0I : (0 : Int) < (r : Int) := by omega
      have hst := finD_step (r := r) (l := t.data.toList) (.inr (by omega))
      rw [hfin] at hst
      obtain ⟨d, hd⟩ : ∃ d, r % 10 = d := ⟨_, rfl⟩
      rw [hd] at hst
      have hd10 : d < 10 := by rw [← hd]; exact Nat.mod_lt _ (by decide)
      have hrem : Int.tmod (r : Int) 10 = (d : Int) := by rw [← hd]; rfl
      have wd : IntKind.u8.wrap (48 + (d : Int)) = (((UInt8.ofNat (48 + d)).toNat : Nat) : Int) := by
        rw [UInt8.toNat_ofNat', Nat.mod_eq_of_lt (by omega)]
        simp [IntKind.wrap, IntKind.bits, IntKind.signed]; omega
      have hdI : (d : Int) ≤ 9 := by omega
      have hdI0 : (0 : Int) ≤ (d : Int) := by omega
      obtain ⟨x, hx⟩ : ∃ x : UInt8, UInt8.ofNat (48 + d) = x := ⟨_, rfl⟩
      rw [hx] at hst wd
      have hone := OwnU.one wr w.heap.size hbs x
      have hstr := hone.str
      have HST := Lib.hid hst
      have hrk : (r : Int) < 1000000000000000 := by omega
      have hq : Int.tdiv (r : Int) 10 = ((r / 10 : Nat) : Int) := rfl
      clear hst hd hx hone hb hfin hne htl
      go_wp2_with fail
      go_roundw
      case rel =>
        refine ⟨r / 10, ⟨[x].toArray⟩ ++ t, by first | rfl | go_num, rfl, by omega, ?_, ?_, HB.out.alloc HB.out.size _⟩
        · rw [ba_app]; exact HST.out
        · intro _; rw [ba_app]; simp
      case measure => simp [intOf]; omega
    · obtain rfl : r = 0 := by omega
      have hf2 : t.data.toList = Lib.decDigits k := by
        rw [← hfin]; unfold finD; rw [if_pos ⟨rfl, hne rfl⟩]
      have HF := Lib.hid hf2
      clear hf2 hfin hne hb htl
      go_wp2_with fail
      go_ret
      have e : (⟨#[109]⟩ : ByteArray) ++ t = ⟨(MT k).toArray⟩ := by
        apply ba_of
        rw [ba_app, HF.out]; rfl
      rw [← e]
      exact ⟨rfl, HB.out⟩

theorem OwnS.put {w : World} {B g n cap : Nat} {P : List (List UInt8)} (h : OwnS w B (.slice (some ⟨g, 0, none⟩) n cap) P) (i : Nat) (x : List UInt8) : OwnS (w.setCell ⟨g, i, none⟩ (.string ⟨x.toArray⟩)) B (.slice (some ⟨g, 0, none⟩) n cap) (P.set i x) := by
  have hn : P.length = n := by
    rcases h.2 with ⟨h1, _⟩ | ⟨g', cap', cur, h1, _⟩
    · simp at h1
    · simp only [Value.slice.injEq] at h1; omega
  subst hn
  have h2 := (World.ownsRow.stored h i (.string ⟨x.toArray⟩)).1
  unfold OwnS
  have e : sCells (P.set i x) = (sCells P).set i (.string ⟨x.toArray⟩) := by unfold sCells; rw [List.map_set]
  rw [e, List.length_set]
  simpa using h2
theorem grownS_trans {w1 w2 w3 : World} {r : Option Nat} (h : w1.grownBy w2 r) (h' : w2.grownBy w3 r) : w1.grownBy w3 r :=
  ⟨h'.os.trans h.os, h'.tape.trans h.tape, h'.output.trans h.output, Nat.le_trans h.size h'.size, fun k hk hn => (h'.block k (Nat.lt_of_lt_of_le hk h.size) hn).trans (h.block k hk hn)⟩
theorem grownS_self (w : World) (r : Option Nat) : w.grownBy w r := ⟨rfl, rfl, rfl, Nat.le_refl _, fun _ _ _ => rfl⟩

set_option maxHeartbeats 2000000 in
theorem markS_any (w : World) (B : Nat) (v : Value) (P : List (List UInt8)) (k : Nat) (hk1 : 1 ≤ k) (hk : k + P.length ≤ 100000000) (h : OwnS w B v P) :
    Calls Tryd.prog 15 #[v, .int .i64 k] w fun e w' => e = .returned (.int .i64 ((k + P.length : Nat) : Int)) ∧ OwnS w' B v (mkS k P.length) ∧ w.grownBy w' v.ownBlock := by
  rcases h.form with ⟨rfl, rfl⟩ | ⟨g, cap, hv⟩
  · go_enter Tryd.func15, Tryd.ntmps15
    go_wp2_with fail
    go_loopw [1, 5] (fun v1 v5 wr => v5 = .int .i64 0 ∧ v1 = .int .i64 k ∧ wr = w) (fun _ _ _ => 0)
    case atStart => exact ⟨rfl, rfl, rfl⟩
    case round =>
      obtain ⟨rfl, rfl, rfl⟩ := hrel
      go_wp2
      go_ret
      exact ⟨by simp, h, grownS_self _ _⟩
  · generalize hn : P.length = n at *
    subst hv
    have hnI : (n : Int) ≤ 100000000 := by omega
    have hkI : (k : Int) ≤ 100000000 := by omega
    have HH := Lib.hid h
    have HN := Lib.hid hn
    clear h hn
    go_enter Tryd.func15, Tryd.ntmps15
    go_wp2_with fail
    go_loopw [1, 5] (fun v1 v5 wr => ∃ (i : Nat) (Q : List (List UInt8)), v5 = .int .i64 i ∧ v1 = .int .i64 ((k + i : Nat) : Int) ∧ i ≤ n ∧ Q.length = n ∧ (∀ j, j < i → Q.getD j [] = MT (k + j)) ∧ OwnS wr B (.slice (some ⟨g, 0, none⟩) n cap) Q ∧ w.grownBy wr (some g)) (fun _ v5 _ => n - (intOf v5).toNat)
    case atStart => exact ⟨0, P, rfl, by simp, Nat.zero_le _, HN.out, by omega, HH.out, grownS_self _ _⟩
    case round =>
      obtain ⟨i, Q, rfl, rfl, hi, hl, hq, hown, hg⟩ := hrel
      have HOW := Lib.hid hown
      have HG := Lib.hid hg
      have HQ := Lib.hid hq
      have HL := Lib.hid hl
      obtain ⟨ki, hki⟩ : ∃ ki, k + i = ki := ⟨_, rfl⟩
      rw [hki]
      have HKI := Lib.hid hki
      have hkiI : (ki : Int) ≤ 200000000 := by omega
      by_cases hlt : i < n
      · have hltI : (i : Int) < (n : Int) := by omega
        have KM := Lib.hid (markText_any wr ki (by omega) (by omega))
        clear hq hl hown hg hki
        go_wp2_with fail
        refine KM.out.mono ?_
        rintro e w1 ⟨rfl, hb1⟩
        have hown1 := HOW.out.below hb1
        have hc : w1.cell? ⟨g, i, none⟩ = some (.string ⟨(Q.getD i []).toArray⟩) := (hown1.strAt).2 i (by rw [HL.out]; exact hlt)
        have hf : w1.frozen? ⟨g, i, none⟩ = false := by
          have h9 := hown1
          unfold OwnS at h9
          rw [HL.out] at h9
          exact World.ownsRow.frozenAt h9 i
        have HO1 := Lib.hid (And.intro hown1 hb1)
        obtain ⟨x, hx⟩ : ∃ x : ByteArray, x = ⟨(Q.getD i []).toArray⟩ := ⟨_, rfl⟩
        rw [← hx] at hc
        clear hown1 hb1 hx
        go_wp2_with fail
        go_roundw
        case rel =>
          refine ⟨i + 1, Q.set i (MT ki), by go_num, by rw [← Nat.add_assoc, HKI.out]; go_num, by omega, by rw [List.length_set, HL.out], fun j hj => ?_, HO1.out.1.put i (MT ki), grownS_trans (grownS_trans HG.out (grown_below HO1.out.2 _)) (grown_setCell _ _ _)⟩
          by_cases hji : j = i
          · subst hji
            rw [List.getD_eq_getElem?_getD, List.getElem?_set_self (by rw [HL.out]; exact hlt), HKI.out]; rfl
          · rw [List.getD_eq_getElem?_getD, List.getElem?_set_ne (by omega), ← List.getD_eq_getElem?_getD]
            exact HQ.out j (by omega)
        case measure => simp [intOf]; omega
      · obtain rfl : n = i := by omega
        have e : Q = mkS k n := by
          apply List.ext_getElem?
          intro j
          by_cases hj : j < n
          · have h1 := hq j hj
            have h2 := mkS_get (k := k) hj
            rw [List.getD_eq_getElem?_getD] at h1 h2
            have h3 : Q[j]? = some (Q[j]'(by rw [hl]; exact hj)) := List.getElem?_eq_getElem _
            have h4 : (mkS k n)[j]? = some ((mkS k n)[j]'(by rw [mkS_len]; exact hj)) := List.getElem?_eq_getElem _
            rw [h3] at h1
            rw [h4] at h2
            rw [h3, h4]
            simp at h1 h2
            rw [h1, h2]
          · rw [List.getElem?_eq_none (by rw [hl]; omega), List.getElem?_eq_none (by rw [mkS_len]; omega)]
        have HE := Lib.hid e
        clear hq hl hown hg hki e
        go_wp2_with fail
        go_ret
        refine ⟨by rw [HKI.out]; rfl, ?_, HG.out⟩
        rw [← HE.out]; exact HOW.out

set_option maxHeartbeats 2000000 in
theorem heldS_yes (w : World) (v : Value) (k n : Nat) (hk1 : 1 ≤ k) (hk : k + n ≤ 100000000) (h : SV w v (mkS k n)) :
    Calls Tryd.prog 16 #[v, .int .i64 k] w fun e w' => e = .returned (.int .i64 ((k + n : Nat) : Int)) ∧ Below w.heap.size w w' := by
  obtain ⟨a1, c1, hv⟩ : ∃ a c, v = .slice a n c := by
    rcases h with ⟨g, c, e, -⟩ | ⟨a, c, e, e2⟩
    · exact ⟨_, _, by rw [e, mkS_len]⟩
    · have h2 := congrArg List.length e2
      rw [mkS_len] at h2
      exact ⟨_, _, by rw [e, h2]; rfl⟩
  have key : ∀ i, i < n → ∃ g, a1 = some ⟨g, 0, none⟩ ∧ g < w.heap.size ∧ w.cell? ⟨g, i, none⟩ = some (.string ⟨(MT (k + i)).toArray⟩) := by
    intro i hi
    rcases h with ⟨g, c, e, hs⟩ | ⟨a, c, e, e2⟩
    · rw [hv] at e
      injection e with e _ _
      have h3 := hs.2 i (by rw [mkS_len]; exact hi)
      rw [mkS_get hi] at h3
      exact ⟨g, e, hs.1, h3⟩
    · have h2 := congrArg List.length e2
      rw [mkS_len] at h2
      simp at h2; omega
  subst hv
  have KEY := Lib.hid key
  have hnI : (n : Int) ≤ 100000000 := by omega
  have hkI : (k : Int) ≤ 100000000 := by omega
  clear key h
  go_enter Tryd.func16, Tryd.ntmps16
  go_wp2_with fail
  go_loopw [1, 5] (fun v1 v5 wr => ∃ i : Nat, v5 = .int .i64 i ∧ v1 = .int .i64 ((k + i : Nat) : Int) ∧ i ≤ n ∧ Below w.heap.size w wr) (fun _ v5 _ => n - (intOf v5).toNat)
  case atStart => exact ⟨0, rfl, by simp, Nat.zero_le _, Below.refl _ _⟩
  case round =>
    obtain ⟨i, rfl, rfl, hi, hb⟩ := hrel
    obtain ⟨ki, hki⟩ : ∃ ki, k + i = ki := ⟨_, rfl⟩
    rw [hki]
    have HKI := Lib.hid hki
    have HB := Lib.hid hb
    have hkiI : (ki : Int) ≤ 200000000 := by omega
    by_cases hlt : i < n
    · have hltI : (i : Int) < (n : Int) := by omega
      obtain ⟨g, rfl, hgl, hc⟩ := KEY.out i hlt
      rw [hki] at hc
      have KM := Lib.hid (fun W => markText_any W ki (by omega) (by omega))
      obtain ⟨x, hx⟩ : ∃ x : ByteArray, x = ⟨(MT ki).toArray⟩ := ⟨_, rfl⟩
      rw [← hx] at hc KM
      have hgr : g < wr.heap.size := Nat.lt_of_lt_of_le hgl hb.size
      have c1 : wr.cell? ⟨g, i, none⟩ = some (.string x) := (hb.cell (p := ⟨g, i, none⟩) hgl).trans hc
      have hxx : (x.toList == x.toList) = true := by simp
      have hbs := hb.size
      clear hb hki hx hc
      go_upto_region 4 with fail
      have hd1 : Below wr.heap.size wr wr.drew := below_drewN (Below.refl _ _) 1
      have SV := Lib.hid (fun V (h : Below wr.heap.size wr V) => (show Below wr.heap.size wr V ∧ V.cell? ⟨g, i, none⟩ = some (.string x) from ⟨h, (h.cell (p := ⟨g, i, none⟩) hgr).trans c1⟩))
      go_region_held3 (fun V => Below wr.heap.size wr V ∧ V.cell? ⟨g, i, none⟩ = some (.string x))
        (first | (refine SV.out _ ?_; first | (with_reducible exact Below.refl _ _) | (with_reducible assumption) | exact hd1.trans (hbd.mono hd1.size) | exact hbd) | go_keep)
        (first
          | (go_at_call 29; (with_reducible refine (KM.out _).mono ?_); rintro e wd ⟨rfl, hbd⟩))
      have hbD : Below wr.heap.size wr wd := by first | exact hbd | exact hd1.trans (hbd.mono hd1.size)
      have HBD := Lib.hid (HB.out.trans (hbD.mono hbs))
      clear hd1 hbd hbD
      go_wp2_with fail
      go_roundw
      case rel => exact ⟨i + 1, by go_num, by rw [← Nat.add_assoc, HKI.out]; go_num, by omega, HBD.out⟩
      case measure => simp [intOf]; omega
    · obtain rfl : n = i := by omega
      clear hki hb
      go_wp2_with fail
      go_ret
      exact ⟨by rw [HKI.out]; rfl, HB.out⟩

end Go.Proofs.YtegcbbmbmchagaaDoor
