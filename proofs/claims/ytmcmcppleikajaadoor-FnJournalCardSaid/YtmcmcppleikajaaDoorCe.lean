/- Lines that a law of journals draws. -/
import Derived.Test.YtmcmcppleikajaaDoorCd
namespace Go.Proofs.YtmcmcppleikajaaDoor
open Go.RowKit
set_option maxRecDepth 100000
set_option linter.unusedVariables false
set_option linter.unusedSimpArgs false

/-- Lines that are drawn. -/
def MakesLines (w : World) (e : Ending) (w' : World) : Prop :=
  ∃ (g n c : Nat) (P : List (List UInt8)), e = .returned (.slice (some ⟨g, 0, none⟩) n c) ∧ P.length = n ∧ n ≤ 6 ∧ (∀ p ∈ P, p.length ≤ 600 ∧ noNl p = true) ∧ OwnS w' w.heap.size (.slice (some ⟨g, 0, none⟩) n c) P ∧ Below w.heap.size w w'

set_option maxHeartbeats 4000000 in
theorem b10Lines_any (w : World) (a : Option Addr) (len cap : Nat) (h : BytesIn w a len) (d1 d2 : Int) (s1 s2 s3 : Option Addr) (n1 n2 n3 c1 c2 c3 : Nat) :
    Calls Tryd.prog 5 #[.slice a len cap, .agg #[.int .i64 d1, .int .i64 d2, .slice s1 n1 c1, .int .i64 d1, .int .i64 d2, .slice s2 n2 c2, .int .i64 d1, .int .i64 d2, .slice s3 n3 c3]] w (MakesLines w) := by
  obtain ⟨j0, hj0, hy0, hy1, hy2⟩ := info_parts info_strT
  obtain ⟨wA, hwA⟩ : ∃ wA, wA = w.alloc (.cells #[.int .i64 d1, .int .i64 d2, .slice s1 n1 c1, .int .i64 d1, .int .i64 d2, .slice s2 n2 c2, .int .i64 d1, .int .i64 d2, .slice s3 n3 c3] 32) := ⟨_, rfl⟩
  have hbA : Below w.heap.size w wA := by rw [hwA]; exact alb_k _ _
  have hsz : wA.heap.size = w.heap.size + 1 := by rw [hwA]; simp
  have KF := Lib.hid (from_any wA a len cap (h.at.grown (grown_below hbA none) (fun k hk => by cases hk)) (by omega))
  have HWA := Lib.hid hwA
  have HA := Lib.hid hbA
  have hsz2 : w.heap.size + 1 ≤ wA.heap.size := by omega
  clear hwA hbA hsz h
  go_enter Tryd.func5, Tryd.ntmps5
  go_wp2_with fail
  rw [← HWA.out]
  refine KF.out.mono ?_
  rintro e w1 ⟨rfl, hs, hb, hlt⟩
  obtain ⟨sb, hsb⟩ : ∃ sb, sb = wA.heap.size := ⟨_, rfl⟩
  rw [← hsb] at hs hlt ⊢
  have hb0 : Below w.heap.size w (w1.alloc (.cells #[] 9)) := (HA.out.trans (hb.mono HA.out.size)).alloc (by have := hb.size; omega) _
  have ho0 := OwnS.start w1 w.heap.size (by have := hb.size; omega)
  have hs0 := hs.below (alb_k w1 (.cells #[] 9))
  have hne0 : w1.heap.size ≠ sb := by omega
  have H0 := Lib.hid (And.intro hb0 (And.intro ho0 (And.intro hs0 hne0)))
  have hsw : w.heap.size + 1 ≤ sb := by omega
  clear hb hb0 ho0 hs0 hne0 hs hlt KF HA HWA
  clear hsz2 hsb
  go_wp2_with fail
  refine (pick_any _ _ _ 7 (by omega) (by omega) H0.out.2.2.1 (by omega)).mono ?_
  rintro e w2 ⟨kz, rfl, k0, k1, hd⟩
  obtain ⟨K, rfl⟩ := Int.eq_ofNat_of_zero_le k0
  have hK : K ≤ 6 := by omega
  have own_draw : ∀ {x y : World} {V g n c : Nat} {P : List (List UInt8)}, OwnS x w.heap.size (.slice (some ⟨g, 0, none⟩) n c) P → g ≠ sb → Drew w.heap.size sb V x y → OwnS y w.heap.size (.slice (some ⟨g, 0, none⟩) n c) P := fun ho hne hd => World.ownsRow.kept ho hd.grown (.inr (by simpa [Value.ownBlock] using hne))
  have H2 := Lib.hid (And.intro (H0.out.1.grown hd.grown (by have := H0.out.1.size; omega) (fun k hk => by injection hk with e; omega)) (And.intro (own_draw H0.out.2.1 H0.out.2.2.2 hd) (And.intro hd.ok H0.out.2.2.2)))
  have OD := Lib.hid (fun (x y : World) (V g n c : Nat) (P : List (List UInt8)) (ho : OwnS x w.heap.size (.slice (some ⟨g, 0, none⟩) n c) P) (hne : g ≠ sb) (hd : Drew w.heap.size sb V x y) => own_draw ho hne hd)
  clear k0 k1 hd own_draw
  go_wp2_with fail
  go_loopw [6, 7] (fun v6 v7 wr => ∃ (n k g c : Nat) (P : List (List UInt8)), v6 = .slice (some ⟨g, 0, none⟩) n c ∧ v7 = .int .i64 k ∧ P.length = n ∧ n + k ≤ 6 ∧ (∀ p ∈ P, p.length ≤ 600 ∧ noNl p = true) ∧ Below w.heap.size w wr ∧ OwnS wr w.heap.size (.slice (some ⟨g, 0, none⟩) n c) P ∧ SrcOk wr w.heap.size sb (10 + 5000 * n) ∧ g ≠ sb) (fun _ v7 _ => (intOf v7).toNat)
  case atStart => exact ⟨0, K, _, _, [], rfl, rfl, rfl, by omega, by simp, H2.out.1, H2.out.2.1, H2.out.2.2.1.mono (by omega), H2.out.2.2.2⟩
  case round =>
    clear H2 H0
    obtain ⟨n, k, g, c, P, rfl, rfl, hPl, hnk, hP, hb, ho, hs, hne⟩ := hrel
    have hbn := hb.size
    have HS := Lib.hid (And.intro hPl (And.intro hP (And.intro hb (And.intro ho (And.intro hs hne)))))
    clear hPl hP hb ho hs hne
    cases k with
    | zero =>
      have hk0 : ¬ (0 : Int) < ((0 : Nat) : Int) := by omega
      go_wp2_with fail
      go_ret
      exact ⟨g, n, c, P, rfl, HS.out.1, by omega, HS.out.2.1, HS.out.2.2.2.1, HS.out.2.2.1⟩
    | succ k =>
      have hk0 : (0 : Int) < ((k + 1 : Nat) : Int) := by omega
      have hk1 : IntKind.i64.wrap (((k + 1 : Nat) : Int) - 1) = (k : Int) := by rw [show (((k + 1 : Nat) : Int) - 1) = (k : Int) by omega]; exact IntWalk.i64_in _ (by omega)
      obtain ⟨K1, hK1⟩ : ∃ K1, K1 = k + 1 := ⟨_, rfl⟩
      have hk2 : IntKind.i64.wrap ((K1 : Int) - 1) = (k : Int) := by rw [show ((K1 : Int) - 1) = (k : Int) by omega]; exact IntWalk.i64_in _ (by omega)
      have hk3 : (0 : Int) < (K1 : Int) := by omega
      have KL := Lib.hid (fun dp => l08DrawLine_any wr sb (10 + 5000 * n) dp HS.out.2.2.2.2.1 (by omega) (by omega))
      rw [← hK1]
      have HK1 := Lib.hid hK1
      clear hk0 hk1 hK1
      go_wp2_with fail
      refine (KL.out _).mono ?_
      rintro e w3 ⟨s, rfl, hls, hd⟩
      obtain ⟨p, rfl⟩ : ∃ p : List UInt8, s = ⟨p.toArray⟩ := ⟨s.data.toList, by cases s; simp⟩
      have hp : p.length ≤ 600 ∧ noNl p = true := ⟨by simpa [ByteArray.size] using hls.1, noNl_ofC (by simpa using hls.2)⟩
      have ho3 := OD.out _ _ _ _ _ _ _ HS.out.2.2.2.1 HS.out.2.2.2.2.2 hd
      have hb3 : Below w.heap.size w w3 := HS.out.2.2.1.grown hd.grown hbn (fun k hk => by injection hk with e; omega)
      have hb3s := hb3.size
      have hrow : w3.ownsRow w.heap.size 9 1 (.slice (some ⟨g, 0, none⟩) n c) n (sCells P) := by have := ho3; unfold OwnS at this; rw [HS.out.1] at this; exact this
      have hsl := HS.out.2.2.2.2.1.lt
      have H3 := Lib.hid (And.intro hp (And.intro ho3 (And.intro hb3 hd.ok)))
      have hn9 : n ≤ 6 := by omega
      have hsl3 : sb < w3.heap.size := hd.ok.lt
      clear hls hp ho3 hb3 hd KL
      go_wp2_with (at_builtin; refine wpList_append_lies _ (by rfl) _ _ _ (by rfl) w.heap.size 9 j0 _ 1 16 Tryd.underlying24 hj0 hy0 hy1 hy2 rfl (by omega) (.slice (some ⟨g, 0, none⟩) n c) n _ (by rfl) (World.ownsRow.alloc hrow _) ⟨w3.heap.size, 0, none⟩ 1 1 [.string ⟨p.toArray⟩] (by rfl) (by rfl) (cell_one_new _ _ _) (by simp [Value.oneCell']) (by omega) (by unfold maxLen; omega) (by omega) (by simp; omega) (w3.heap.size + 1) (by simp) ?_; intro g3 cap3 w4 hown2 hgrow hat hltg)
      have HR2 := Lib.hid (And.intro hown2 (And.intro hgrow hat))
      clear hown2 hgrow hat hrow
      go_wp2_with fail
      go_roundw
      case rel =>
        obtain ⟨hown2, hgrow, hat⟩ := HR2.out
        obtain ⟨hp, ho3, hb3, hok3⟩ := H3.out
        have hgb : w.heap.size ≤ g := (ho3.lt (k := g) rfl).1
        have hb2 : Below w.heap.size w w4 := (hb3.alloc hb3.size _).grown hgrow (by simp; omega) (fun k' hk => by simp [Value.ownBlock] at hk; omega)
        have ho2 : OwnS w4 w.heap.size (.slice (some ⟨g3, 0, none⟩) (n + 1) cap3) (P ++ [p]) := own_snocS HS.out.1 hown2
        have hgne := HS.out.2.2.2.2.2
        refine ⟨n + 1, k, g3, cap3, P ++ [p], rfl, by go_num, by rw [List.length_append, HS.out.1]; rfl, by omega, ?_, hb2, ho2, ?_, ?_⟩
        · intro q hq
          rcases List.mem_append.1 hq with hq | hq
          · exact HS.out.2.1 q hq
          · rw [List.mem_singleton] at hq; rw [hq]; exact hp
        · exact ((hok3.below (alb_k w3 _)).grown hgrow (by simp [Value.ownBlock]; exact fun e => hgne e.symm) (fun k' hk => by simp [Value.ownBlock] at hk; omega)).mono (by omega)
        · rcases hat with hh | hh
          · simp [Value.ownBlock] at hh; omega
          · omega
      case measure => simp [intOf]; have := HK1.out; omega

end Go.Proofs.YtmcmcppleikajaaDoor
