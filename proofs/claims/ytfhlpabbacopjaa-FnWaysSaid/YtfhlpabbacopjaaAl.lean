/- impl.along: a volume that is told along a direction. The costs are quarters. -/
import Derived.Test.YtfhlpabbacopjaaPa
namespace Go.Proofs.Ytfhlpabbacopjaa
open Go.RowKit
set_option maxRecDepth 100000
set_option linter.unusedVariables false
set_option linter.unusedSimpArgs false

/-- A list of words that is a volume of quarters. -/
def QV (bs : List Nat) (wd hi dp : Nat) (P : Int → Int → List Int) : Prop :=
  bs.length = wd * hi * dp ∧ ∀ x y : Nat, x < wd → y < hi → (P x y).length = dp ∧ ∀ d, d < dp → bs.getD (ic wd dp x y + d) 0 = fq 2 ((P x y).getD d 0)
theorem SlF.sub {W : World} {b off n c : Nat} {bs : List Nat} (h : SlF W (.slice (some ⟨b, off, none⟩) n c) bs) (hb : b < W.heap.size) (k m : Nat) (L : List Nat) (hL : L.length = m) (hk : k + m ≤ bs.length) (he : ∀ d, d < m → bs.getD (k + d) 0 = L.getD d 0) :
    SlF W (.slice (some ⟨b, off + k, none⟩) m m) L := by
  have hc := h.size
  refine ⟨⟨some ⟨b, off + k, none⟩, m, by simp [hL], by simp [hL], by omega, .inr ⟨b, off + k, rfl, hb, fun i hi => ?_⟩⟩, fun x hx => ?_⟩
  · have hi' : i < m := by rw [List.length_map, hL] at hi; exact hi
    have h1 := (h.at (k + i) (by omega)).1
    rw [he i hi', ← Nat.add_assoc] at h1
    rw [h1, List.getElem_map, getD_of _ _ (by omega)]
  · obtain ⟨i, hi, rfl⟩ := List.getElem_of_mem hx
    have := (h.at (k + i) (by omega)).2
    rw [he i (by omega), ← getD_of _ _ hi] at this
    exact this
theorem QV.cell {W : World} {b off n c wd hi dp : Nat} {bs : List Nat} {P : Int → Int → List Int} (h : SlF W (.slice (some ⟨b, off, none⟩) n c) bs) (hb : b < W.heap.size) (hq : QV bs wd hi dp P) {x y : Nat} (hx : x < wd) (hy : y < hi) :
    SlF W (.slice (some ⟨b, off + ic wd dp x y, none⟩) dp dp) ((P x y).map (fq 2)) := by
  obtain ⟨q1, q2⟩ := hq.2 x y hx hy
  refine h.sub hb _ _ _ (by rw [List.length_map, q1]) (by rw [hq.1]; exact ic_le hx hy) fun d hd => ?_
  rw [q2 d hd, getD_map_fq 2 _ d (by omega)]
theorem eq_of_fl' {r g : Nat} {k : Int} (hk : k.natAbs ≤ 16777216) (h : fl r = fq g k) : r = fq g k := by
  have h1 : nan32 r = false := by rw [← nan32_fl, h]; exact fq_nan hk
  rw [← h]; exact (fl_eq h1).symm
theorem tab3_get {bs : List Nat} {wd hi dp : Nat} {g : Nat → Nat → Nat → Nat} (h : bs.map fl = tab3 wd hi dp g) {x y d : Nat} (hx : x < wd) (hy : y < hi) (hd : d < dp) : fl (bs.getD (ic wd dp x y + d) 0) = g x y d := by
  have hl := tab3_len h
  have hle := ic_le (dp := dp) hx hy
  have hlt : ic wd dp x y + d < bs.length := by rw [hl, Nat.mul_comm hi wd]; omega
  have e := congrArg (fun l => l.getD (ic wd dp x y + d) 0) h
  have e1 : (bs.map fl).getD (ic wd dp x y + d) 0 = fl (bs.getD (ic wd dp x y + d) 0) := by
    rw [List.getD_eq_getElem?_getD, List.getD_eq_getElem?_getD, List.getElem?_map, List.getElem?_eq_getElem hlt]; rfl
  rw [← e1]
  rw [e]
  unfold tab3 tab
  rw [List.getD_eq_getElem?_getD, List.getElem?_map, List.getElem?_range (by rw [← hl]; exact hlt)]
  obtain ⟨p1, p2, p3, p4⟩ := cell_parts (y := y) hx hd
  have ei : ic wd dp x y = (y * wd + x) * dp := by unfold ic; rw [Nat.add_comm, Nat.mul_comm wd y]
  show g _ _ _ = _
  rw [ei, p1, p2, p3, p4]
theorem QV.of_tab {bs : List Nat} {wd hi dp : Nat} {g : Nat → Nat → Nat → Nat} {P : Int → Int → List Int} (h : bs.map fl = tab3 wd hi dp g) (hl : ∀ x y : Nat, x < wd → y < hi → (P x y).length = dp) (hb : ∀ x y : Nat, x < wd → y < hi → ∀ d, d < dp → ((P x y).getD d 0).natAbs ≤ 16777216)
    (hg : ∀ x y d : Nat, x < wd → y < hi → d < dp → g x y d = fq 2 ((P x y).getD d 0)) : QV bs wd hi dp P :=
  ⟨by rw [tab3_len h, Nat.mul_comm hi wd], fun x y hx hy => ⟨hl x y hx hy, fun d hd => eq_of_fl' (hb x y hx hy d hd) (by rw [tab3_get h hx hy hd, hg x y d hx hy hd])⟩⟩

theorem volHas_any (W : World) (pb wd hi : Nat) (z v : Value) (x y : Int) (hw2 : wd ≤ 1000) (hh2 : hi ≤ 1000) (h : BoxN W pb #[.int .i64 wd, .int .i64 hi, z, v] 26) :
    Calls Try.prog 108 #[.pointer (some ⟨pb, 0, none⟩), .int .i64 x, .int .i64 y] W fun e w' => e = .returned (.bool (inB x y wd hi)) ∧ W = w' := by
  obtain ⟨c0, c1, c2, c3, -, -, -, -⟩ := h.four
  have b1 : (wd : Int) ≤ 1000 := by omega
  have b2 : (hi : Int) ≤ 1000 := by omega
  cases hx : (decide (0 ≤ x) && decide (x ≤ (wd : Int) - 1))
  · have e : inB x y wd hi = false := by unfold inB; rw [hx]; rfl
    rw [e]; clear e h
    go_enter Try.func108, Try.ntmps108
    go_wp2_with (go_at_call 49; refine (in_any _ _ _ _).mono ?_; rintro e w' ⟨rfl, rfl⟩)
    go_ret
    simp
  · have e : inB x y wd hi = (decide (0 ≤ y) && decide (y ≤ (hi : Int) - 1)) := by unfold inB; rw [hx, Bool.true_and]
    rw [e]; clear e h
    go_enter Try.func108, Try.ntmps108
    go_wp2_with (go_at_call 49; refine (in_any _ _ _ _).mono ?_; rintro e w' ⟨rfl, rfl⟩)
    go_ret
    simp

theorem along1_gives {W0 : World} {pb wd hi dp b off n c : Nat} {bs : List Nat} (h : VolAt W0 pb wd hi dp b off n c bs) (hw : wd ≤ 24) (hh : hi ≤ 24) (hd1 : 1 ≤ dp) (hd2 : dp ≤ 8) :
    Gives3 W0 (.func (.func 106) #[] #[.pointer (some ⟨pb, 0, none⟩)]) wd hi dp (fun x y d => fl (gc bs wd dp x y d)) := by
  refine ⟨106, _, rfl, Try.call106, fun x y d W hx hy hd hbW => ?_⟩
  have hp := h.below hbW
  have hc := hp.cost hx hy hd
  have hcl := hc.2
  have hc := hc.1
  have K := Lib.hid (cell_any W pb wd hi dp b off n c bs x y x y rfl rfl hx hy hw hh hd1 hd2 hp)
  generalize hgc : gc bs wd dp x y d = z at *
  have HZ := Lib.hid hgc
  generalize ic wd dp x y = k at *
  have b1 : (d : Int) < (dp : Int) := by omega
  clear hgc h hp
  show Calls _ _ #[.int .i64 x, .int .i64 y, .int .i64 d, .pointer (some ⟨pb, 0, none⟩)] _ _
  go_enter Try.func106, Try.ntmps106
  go_wp2_with fail
  refine K.out.mono ?_
  rintro e w' ⟨rfl, m, rfl⟩
  go_wp2
  go_ret
  exact ⟨_, rfl, hcl, by show _ = fl (gc bs wd dp x y d); rw [HZ.out], below_drewN (Below.refl _ _) _⟩

/-- A function value that tells a cell's costs of its own ones and of those before. -/
def GivesA (w0 : World) (fv : Value) (wd hi dp : Nat) (own : Int → Int → List Int) (Ok : Int → Int → List Int → Prop) (dx dy : Int) (F : Int → Int → List Int → List Int → List Int) : Prop :=
  ∃ fid caps, fv = .func (.func fid) #[] caps ∧ (∀ args w, (callFunc fid args).run Try.prog w = .ok (.enter fid args) w) ∧
    ∀ (x y : Int) (W : World) (before : List Int) (b1 o1 b2 o2 : Nat), insI x y wd hi → insI (x - dx) (y - dy) wd hi → Below w0.heap.size w0 W →
      SlF W (.slice (some ⟨b1, o1, none⟩) dp dp) ((own x y).map (fq 2)) → b1 < W.heap.size → SlF W (.slice (some ⟨b2, o2, none⟩) dp dp) (before.map (fq 2)) → b2 < W.heap.size → before.length = dp → Ok (x - dx) (y - dy) before →
      Ok x y (F x y (own x y) before) ∧ (F x y (own x y) before).length = dp ∧
      Calls Try.prog fid (#[.slice (some ⟨b1, o1, none⟩) dp dp, .slice (some ⟨b2, o2, none⟩) dp dp, .int .i64 x, .int .i64 y, .int .i64 (x - dx), .int .i64 (y - dy)] ++ caps) W (MakesQ W (F x y (own x y) before))

theorem take_spl {α : Type} (L N : List α) (off n : Nat) (h : off + N.length ≤ n) (hn : n ≤ L.length) : (L.take off ++ (N ++ L.drop (off + N.length))).take n = (L.take n).take off ++ (N ++ (L.take n).drop (off + N.length)) := by
  have l1 : (L.take off).length = off := by rw [List.length_take]; omega
  rw [List.take_append, List.take_append, l1, List.take_take, List.take_take, Nat.min_eq_right (show off ≤ n by omega), Nat.min_eq_left (show off ≤ n by omega), List.drop_take]
  congr 2
  · exact List.take_of_length_le (by omega)
  · congr 1; omega
/-- Written cells of a row of one's own. -/
theorem OwnF.splice {w : World} {B q N cq : Nat} {cs news : List Nat} (h : OwnF w B (.slice (some ⟨q, 0, none⟩) N cq) cs) (off : Nat) (hfit : off + news.length ≤ cs.length) (hn : ∀ x ∈ news, x < 4294967296) :
    ∃ cur : Array Value, w.heap[q]? = some (.cells cur 28 (0, 0)) ∧ off + (news.map (Value.float .f32)).length ≤ cur.size ∧
      OwnF (w.setRow q (cur.toList.take off ++ (news.map (Value.float .f32) ++ cur.toList.drop (off + (news.map (Value.float .f32)).length))).toArray) B (.slice (some ⟨q, 0, none⟩) N cq) (spl cs off news) ∧
      w.grownBy (w.setRow q (cur.toList.take off ++ (news.map (Value.float .f32) ++ cur.toList.drop (off + (news.map (Value.float .f32)).length))).toArray) (some q) := by
  obtain ⟨⟨hl, hh⟩, hlt⟩ := h
  rcases hh with ⟨h1, _⟩ | ⟨g, cap, cur, hv, hB, hheap, hnc, hm, hsz, htake⟩
  · cases h1
  simp only [Value.slice.injEq, Option.some.injEq, Addr.mk.injEq, and_true, true_and] at hv
  obtain ⟨rfl, hN, rfl⟩ := hv
  have hln : (news.map (Value.float .f32)).length = news.length := by simp
  have hfit2 : off + news.length ≤ cur.size := by omega
  refine ⟨cur, hheap, by rw [hln]; exact hfit2, ⟨⟨?_, .inr ⟨q, cq, _, by rw [spl_length _ _ _ hfit, hN], hB, setRow_heap w q cur _ 28 (0, 0) hheap, by rw [spl_length _ _ _ hfit]; exact hnc, hm, ?_, ?_⟩⟩, ?_⟩, ?_⟩
  · simp [spl_length _ _ _ hfit]
  · simp; omega
  · rw [spl_length _ _ _ hfit]
    simp only [Nat.mul_one] at htake ⊢
    unfold spl
    rw [List.map_append, List.map_append, List.map_take, List.map_drop, ← htake, ← hln]
    exact take_spl _ _ _ _ (by rw [hln]; exact hfit) (by simp; omega)
  · intro x hx
    rcases spl_mem hx with h | h
    · exact hlt x h
    · exact hn x h
  · refine ⟨rfl, rfl, rfl, by simp [World.setRow], fun k hk hne => setRow_other w q k _ (fun e => hne (by rw [e]))⟩

theorem ic_inj {wd dp x y x' y' : Nat} (hx : x < wd) (hx' : x' < wd) (h : ¬ (x = x' ∧ y = y')) : ic wd dp x y + dp ≤ ic wd dp x' y' ∨ ic wd dp x' y' + dp ≤ ic wd dp x y := by
  have hne : x + wd * y ≠ x' + wd * y' := by
    intro e
    have h1 := congrArg (· / wd) e
    have h2 := congrArg (· % wd) e
    simp only [Nat.add_mul_div_left _ _ (show 0 < wd by omega), Nat.div_eq_of_lt hx, Nat.div_eq_of_lt hx', Nat.add_mul_mod_self_left, Nat.mod_eq_of_lt hx, Nat.mod_eq_of_lt hx', Nat.zero_add] at h1 h2
    exact h ⟨h2, h1⟩
  unfold ic
  rcases Nat.lt_or_gt_of_ne hne with g | g
  · left
    have := Nat.mul_le_mul_right dp (show x + wd * y + 1 ≤ x' + wd * y' by omega)
    rw [Nat.add_mul _ 1, Nat.one_mul] at this; exact this
  · right
    have := Nat.mul_le_mul_right dp (show x' + wd * y' + 1 ≤ x + wd * y by omega)
    rw [Nat.add_mul _ 1, Nat.one_mul] at this; exact this
theorem QV.put {cs : List Nat} {wd hi dp : Nat} {P : Int → Int → List Int} (h : QV cs wd hi dp P) {x y : Nat} (hx : x < wd) (hy : y < hi) {v : List Int} (hv : v.length = dp) : QV (spl cs (ic wd dp x y) (v.map (fq 2))) wd hi dp (updI P x y v) := by
  have hle := ic_le (dp := dp) hx hy
  have hfit : ic wd dp x y + (v.map (fq 2)).length ≤ cs.length := by rw [List.length_map, hv, h.1]; exact hle
  refine ⟨by rw [spl_length _ _ _ hfit]; exact h.1, fun a b ha hb => ?_⟩
  obtain ⟨q1, q2⟩ := h.2 a b ha hb
  by_cases e : a = x ∧ b = y
  · obtain ⟨rfl, rfl⟩ := e
    rw [updI_self]
    refine ⟨hv, fun d hd => ?_⟩
    rw [spl_in _ _ _ hfit d (by rw [List.length_map, hv]; exact hd), getD_map_fq 2 _ d (by omega)]
  · rw [updI_ne _ _ (by rintro ⟨e1, e2⟩; exact e ⟨by omega, by omega⟩)]
    refine ⟨q1, fun d hd => ?_⟩
    rw [spl_out _ _ _ hfit _ (by rw [List.length_map, hv]; rcases ic_inj (dp := dp) ha hx e with g | g <;> omega)]
    exact q2 d hd

end Go.Proofs.Ytfhlpabbacopjaa
