/- Albums: the plain law of their bytes. No program in sight. -/
import Derived.Test.YtkifhajkmgeafaaUg
import Derived.Test.YtkifhajkmgeafaaPix
namespace Go.Proofs.Ytkifhajkmgeafaa
open Go.RowKit
set_option maxRecDepth 100000
set_option linter.unusedVariables false
set_option linter.unusedSimpArgs false

theorem ba_loop (s : ByteArray) : ∀ (k i : Nat) (r : List UInt8), i + k = s.size → ByteArray.toList.loop s i r = r.reverse ++ s.data.toList.drop i := by
  intro k
  induction k with
  | zero =>
    intro i r h
    rw [ByteArray.toList.loop, if_neg (by omega), List.drop_of_length_le (by rw [Array.length_toList]; show s.size ≤ i; omega)]; simp
  | succ k ih =>
    intro i r h
    rw [ByteArray.toList.loop, if_pos (by omega), ih (i + 1) _ (by omega)]
    have hl : i < s.data.toList.length := by rw [Array.length_toList]; show i < s.size; omega
    have hl2 : i < s.data.size := by rwa [Array.length_toList] at hl
    rw [List.drop_eq_getElem_cons hl, List.reverse_cons, List.append_assoc]
    congr 1
    show [s.get! i] ++ _ = _
    have : s.get! i = s.data.toList[i] := by
      show s.data[i]! = _
      rw [getElem!_pos s.data i hl2]; rfl
    rw [this]; rfl
theorem ba_toList (s : ByteArray) : s.toList = s.data.toList := by
  unfold ByteArray.toList
  rw [ba_loop s s.size 0 [] (by omega)]; simp
theorem ba_beq (s t : ByteArray) : (s.toList == t.toList) = decide (s = t) := by
  rw [ba_toList, ba_toList]
  by_cases h : s = t
  · subst h; simp
  · rw [decide_eq_false h, beq_eq_false_iff_ne]
    intro e; exact h (by apply ByteArray.ext; apply Array.ext'; exact e)

/-- A picture's cells. -/
structure PicB where
  wd : Nat
  hi : Nat
  bs : List Nat
def PicB.ok (p : PicB) : Prop := vPic p.wd p.hi p.bs.length = true ∧ ∀ b ∈ p.bs, b < 4294967296
def PicB.same (p q : PicB) : Prop := p.wd = q.wd ∧ p.hi = q.hi ∧ p.bs.map fl = q.bs.map fl
/-- Lists of the same pictures. -/
inductive Sames : List PicB → List PicB → Prop
  | nil : Sames [] []
  | cons {p q : PicB} {ps qs : List PicB} : p.same q → Sames ps qs → Sames (p :: ps) (q :: qs)
theorem Sames.length_eq {ps qs : List PicB} (h : Sames ps qs) : ps.length = qs.length := by
  induction h with
  | nil => rfl
  | cons _ _ ih => rw [List.length_cons, List.length_cons, ih]
theorem Sames.append {ps qs ps' qs' : List PicB} (h : Sames ps qs) (h' : Sames ps' qs') : Sames (ps ++ ps') (qs ++ qs') := by
  induction h with
  | nil => exact h'
  | cons h1 _ ih => exact .cons h1 ih
theorem Sames.take {ps qs : List PicB} (h : Sames ps qs) : ∀ k, Sames (ps.take k) (qs.take k) := by
  induction h with
  | nil => intro k; rw [List.take_nil]; exact .nil
  | cons h1 h2 ih =>
    intro k
    cases k with
    | zero => exact .nil
    | succ k => exact .cons h1 (ih k)
theorem Sames.get {ps qs : List PicB} (h : Sames ps qs) : ∀ i (hi : i < ps.length) (hj : i < qs.length), ps[i].same qs[i] := by
  induction h with
  | nil => intro i hi; simp at hi
  | cons h1 h2 ih =>
    intro i hi hj
    cases i with
    | zero => exact h1
    | succ i => exact ih i (by simpa using hi) (by simpa using hj)
def PicB.txt (p : PicB) : List UInt8 := stoL p.wd p.hi p.bs
theorem PicB.same.txt {p q : PicB} (h : p.same q) : p.txt = q.txt := by
  unfold PicB.txt; rw [h.1, h.2.1]; exact stoL_fl h.2.2
theorem PicB.ok.dims {p : PicB} (h : p.ok) : p.bs.length = p.wd * p.hi ∧ 1 ≤ p.wd ∧ p.wd ≤ 24 ∧ 1 ≤ p.hi ∧ p.hi ≤ 24 ∧ p.bs.length ≤ 256 ∧ 1 ≤ p.bs.length := by
  obtain ⟨x1, x2, e1, e2, e3, b1, b2, b3, b4, b5⟩ := vPic_spec h.1
  have h1 : x1 = p.wd := by omega
  have h2 : x2 = p.hi := by omega
  subst h1 h2
  have := Nat.mul_pos (show 0 < p.wd by omega) (show 0 < p.hi by omega)
  exact ⟨e3, b1, b2, b3, b4, by omega, by omega⟩
theorem PicB.txt_len (p : PicB) : p.txt.length = 6 + 4 * p.bs.length := stoL_len _ _ _

/-- The check of some bytes. -/
def ckF (z : Nat) (l : List UInt8) : Nat := l.foldl (fun a b => (727 * a + b.toNat + 59) % 65003) z
theorem ckF_app (z : Nat) (l m : List UInt8) : ckF z (l ++ m) = ckF (ckF z l) m := List.foldl_append
theorem ckF_lt {z : Nat} (hz : z < 65003) : ∀ l, ckF z l < 65003 := fun l => by
  rcases List.eq_nil_or_concat l with rfl | ⟨l, b, rfl⟩
  · exact hz
  · rw [List.concat_eq_append, ckF_app]; exact Nat.mod_lt _ (by decide)

/-- The bytes of pictures. -/
def ckB (u : List UInt8) : List UInt8 := leB (ckF 0 u) 2
theorem ckB_len (u : List UInt8) : (ckB u).length = 2 := leB_len _ _
def frm (t : List UInt8) (p : PicB) : List UInt8 := t ++ p.txt ++ ckB (t ++ p.txt)
def albL (ps : List PicB) : List UInt8 := ps.foldl frm []
theorem albL_app (ps : List PicB) (p : PicB) : albL (ps ++ [p]) = albL ps ++ p.txt ++ ckB (albL ps ++ p.txt) := by unfold albL; rw [List.foldl_append]; rfl
theorem albL_nil : albL [] = [] := rfl
theorem albL_pre (ps qs : List PicB) : ∃ e, albL (ps ++ qs) = albL ps ++ e := by
  induction qs generalizing ps with
  | nil => exact ⟨[], by simp⟩
  | cons q qs ih =>
    obtain ⟨e, he⟩ := ih (ps ++ [q])
    rw [List.append_assoc] at he
    exact ⟨q.txt ++ ckB (albL ps ++ q.txt) ++ e, by rw [show q :: qs = [q] ++ qs from rfl, he, albL_app]; simp⟩
theorem albL_same : ∀ {ps qs : List PicB}, Sames ps qs → albL ps = albL qs := by
  intro ps qs h
  have : ∀ t, List.foldl frm t ps = List.foldl frm t qs := by
    induction h with
    | nil => intro t; rfl
    | cons h1 h2 ih => intro t; rw [List.foldl_cons, List.foldl_cons]; unfold frm; rw [h1.txt]; exact ih _
  exact this []
theorem albL_len' : ∀ (n : Nat) (ps : List PicB), ps.length = n → (∀ p ∈ ps, p.bs.length ≤ 256) → (albL ps).length ≤ 1032 * n
  | 0, ps, hn, h => by rw [List.length_eq_zero_iff.1 hn]; simp [albL_nil]
  | n + 1, ps, hn, h => by
    rcases List.eq_nil_or_concat ps with rfl | ⟨qs, q, rfl⟩
    · simp at hn
    · rw [List.concat_eq_append] at h hn ⊢
      rw [List.length_append, List.length_singleton] at hn
      have ih := albL_len' n qs (by omega) fun p hp => h p (by simp [hp])
      have h1 := h q (by simp)
      rw [albL_app, List.length_append, List.length_append, ckB_len, PicB.txt_len]
      omega
theorem albL_len {ps : List PicB} (h : ∀ p ∈ ps, p.bs.length ≤ 256) : (albL ps).length ≤ 1032 * ps.length := albL_len' _ ps rfl h

/-- The words of a picture's bytes. -/
def wrdS (s : ByteArray) (i : Nat) : Nat := byteN s (6 + 4 * i) + 256 * byteN s (6 + 4 * i + 1) + 65536 * byteN s (6 + 4 * i + 2) + 16777216 * byteN s (6 + 4 * i + 3)
theorem wrdS_lt (s : ByteArray) (i : Nat) : wrdS s i < 4294967296 := by
  unfold wrdS
  have h0 := byteN_lt s (6 + 4 * i)
  have h1 := byteN_lt s (6 + 4 * i + 1)
  have h2 := byteN_lt s (6 + 4 * i + 2)
  have h3 := byteN_lt s (6 + 4 * i + 3)
  omega
theorem wrdS_byte (s : ByteArray) (i j : Nat) (hj : j < 4) : byteN s (6 + 4 * i + j) = wrdS s i / 256 ^ j % 256 := by
  have h0 := byteN_lt s (6 + 4 * i)
  have h1 := byteN_lt s (6 + 4 * i + 1)
  have h2 := byteN_lt s (6 + 4 * i + 2)
  have h3 := byteN_lt s (6 + 4 * i + 3)
  unfold wrdS
  rcases (by omega : j = 0 ∨ j = 1 ∨ j = 2 ∨ j = 3) with rfl | rfl | rfl | rfl
  · simp only [Nat.add_zero, Nat.pow_zero, Nat.div_one]; omega
  · simp only [Nat.pow_one]; omega
  · rw [show 256 ^ 2 = 65536 from rfl]; omega
  · rw [show 256 ^ 3 = 16777216 from rfl]; omega
def hwd (s : ByteArray) : Nat := byteN s 4
def hhi (s : ByteArray) : Nat := byteN s 5
def picS (s : ByteArray) : PicB := ⟨hwd s, hhi s, (List.range (hwd s * hhi s)).map (wrdS s)⟩
def endS (s : ByteArray) : Nat := 6 + 4 * (hwd s * hhi s)
def headS (s : ByteArray) : Bool := decide (6 ≤ s.size) && decide (s.extract 0 4 = ⟨#[69, 89, 69, 49]⟩) && szOk (hwd s) (hhi s) && decide (endS s ≤ s.size)
def okS (s : ByteArray) : Bool := headS s && decide (s.extract 0 (endS s) = ⟨(picS s).txt.toArray⟩)
theorem picS_len (s : ByteArray) : (picS s).bs.length = hwd s * hhi s := by unfold picS; simp
theorem okS_pic {s : ByteArray} (h : headS s = true) : (picS s).ok := by
  unfold headS at h
  simp only [Bool.and_eq_true, decide_eq_true_eq] at h
  refine ⟨?_, fun b hb => ?_⟩
  · rw [picS_len]; unfold vPic; rw [Bool.and_eq_true]; exact ⟨h.1.2, by simp [picS]⟩
  · unfold picS at hb
    obtain ⟨i, -, rfl⟩ := List.mem_map.1 hb
    exact wrdS_lt _ _
/-- A text that begins with a picture's bytes is read. -/
theorem okS_of {s : ByteArray} {p : PicB} {ext : List UInt8} (hp : p.ok) (hs : s.data.toList = p.txt ++ ext) : okS s = true ∧ (picS s).same p ∧ endS s = p.txt.length := by
  obtain ⟨d1, d2, d3, d4, d5, d6, d7⟩ := hp.dims
  have ht := text_of (bs := p.bs) (n := p.bs.length) ext d3 d5 rfl
  have e : s = ⟨(stoL p.wd p.hi p.bs ++ ext).toArray⟩ := by
    apply ByteArray.ext; apply Array.ext'; rw [hs]; rfl
  rw [← e] at ht
  have h4 : hwd s = p.wd := ht.b4
  have h5 : hhi s = p.hi := ht.b5
  have hE : endS s = 6 + 4 * p.bs.length := by unfold endS; rw [h4, h5, d1]
  have hw : ∀ i, i < p.bs.length → wrdS s i = fl (p.bs.getD i 0) := fun i hi => by
    have a0 := ht.at_ i 0 hi (by decide)
    have a1 := ht.at_ i 1 hi (by decide)
    have a2 := ht.at_ i 2 hi (by decide)
    have a3 := ht.at_ i 3 hi (by decide)
    have hlt : fl (p.bs.getD i 0) < 4294967296 := fl_lt (by
      rw [List.getD_eq_getElem?_getD, List.getElem?_eq_getElem hi]; exact hp.2 _ (List.getElem_mem _))
    unfold wrdS
    rw [Nat.add_zero] at a0
    rw [a0, a1, a2, a3, show 256 ^ 0 = 1 from rfl, show 256 ^ 1 = 256 from rfl, show 256 ^ 2 = 65536 from rfl, show 256 ^ 3 = 16777216 from rfl]
    generalize fl (p.bs.getD i 0) = z at *
    omega
  have hsame : (picS s).same p := by
    refine ⟨h4, h5, ?_⟩
    show (List.map (wrdS s) (List.range (hwd s * hhi s))).map fl = _
    rw [h4, h5, ← d1]
    apply List.ext_getElem (by simp)
    intro i h1 h2
    have hi : i < p.bs.length := by simpa using h2
    rw [List.getElem_map, List.getElem_map, List.getElem_range, List.getElem_map, hw i hi, fl_fl, List.getD_eq_getElem?_getD, List.getElem?_eq_getElem hi]; rfl
  refine ⟨?_, hsame, by rw [hE, PicB.txt_len]⟩
  unfold okS headS
  have hsz := ht.size
  have hk : szOk (hwd s) (hhi s) = true := by
    have h := hp.1; unfold vPic at h; rw [Bool.and_eq_true] at h; rw [h4, h5]; exact h.1
  rw [decide_eq_true (show 6 ≤ s.size by omega), decide_eq_true ht.mark, hk, decide_eq_true (show endS s ≤ s.size by omega), decide_eq_true (show s.extract 0 (endS s) = ⟨(picS s).txt.toArray⟩ by rw [hsame.txt, hE]; exact ht.cut)]
  rfl

/-- The picture that stands at a place, with its check; and where it ends. -/
def recS (s : ByteArray) (at_ : Nat) : Bool :=
  let r := s.extract at_ s.size
  okS r && decide (at_ + endS r + 2 ≤ s.size) && decide (s.extract (at_ + endS r) (at_ + endS r + 2) = ⟨(ckB (s.extract 0 (at_ + endS r)).data.toList).toArray⟩)
def nxtS (s : ByteArray) (at_ : Nat) : PicB × Nat := (picS (s.extract at_ s.size), at_ + endS (s.extract at_ s.size) + 2)
/-- What is recovered of a text in at most k steps. -/
def recG (s : ByteArray) : Nat → List PicB × Nat
  | 0 => ([], 0)
  | k + 1 => if (recG s k).1.length = k ∧ recS s (recG s k).2 = true then ((recG s k).1 ++ [(nxtS s (recG s k).2).1], (nxtS s (recG s k).2).2) else recG s k
theorem recG_le (s : ByteArray) : ∀ k, (recG s k).1.length ≤ k
  | 0 => Nat.le_refl _
  | k + 1 => by
    unfold recG
    have ih := recG_le s k
    split
    · rw [List.length_append, List.length_singleton]; omega
    · omega
theorem recG_stay {s : ByteArray} {k : Nat} (h : ¬ ((recG s k).1.length = k ∧ recS s (recG s k).2 = true)) : ∀ j, recG s (k + j) = recG s k
  | 0 => rfl
  | j + 1 => by
    have ih := recG_stay h j
    show recG s (k + j + 1) = _
    rw [recG, ih]
    by_cases e : (recG s k).1.length = k + j ∧ recS s (recG s k).2 = true
    · have := recG_le s k
      exact absurd ⟨by omega, e.2⟩ h
    · rw [if_neg e]
theorem recG_stop {s : ByteArray} {k m : Nat} (hk : k ≤ m) (h : (recG s k).1.length = k → recS s (recG s k).2 = false) : recG s m = recG s k := by
  have := recG_stay (s := s) (k := k) (fun e => by rw [h e.1] at e; exact absurd e.2 (by simp)) (m - k)
  rwa [show k + (m - k) = m by omega] at this
theorem recG_go {s : ByteArray} {k : Nat} (h1 : (recG s k).1.length = k) (h2 : recS s (recG s k).2 = true) : recG s (k + 1) = ((recG s k).1 ++ [(nxtS s (recG s k).2).1], (nxtS s (recG s k).2).2) := by
  rw [recG, if_pos ⟨h1, h2⟩]

theorem ext_list (s : ByteArray) (a b : Nat) : (s.extract a b).data.toList = (s.data.toList.take b).drop a := by
  rw [ByteArray.data_extract, Array.toList_extract, List.extract_eq_drop_take']
theorem ba_of {s : ByteArray} {l : List UInt8} (h : s.data.toList = l) : s = ⟨l.toArray⟩ := by
  apply ByteArray.ext; apply Array.ext'; rw [h]
theorem ba_eq {s : ByteArray} {l : List UInt8} (h : s = ⟨l.toArray⟩) : s.data.toList = l := by rw [h]
theorem ba_size (s : ByteArray) : s.data.toList.length = s.size := by rw [Array.length_toList]; rfl

/-- What is recovered is the beginning of the text. -/
theorem recG_sound (s : ByteArray) : ∀ k, s.data.toList.take (recG s k).2 = albL (recG s k).1 ∧ (recG s k).2 ≤ s.size ∧ ∀ p ∈ (recG s k).1, p.ok
  | 0 => ⟨by simp [recG, albL_nil], Nat.zero_le _, by simp [recG]⟩
  | k + 1 => by
    obtain ⟨h1, h2, h3⟩ := recG_sound s k
    unfold recG
    split
    · rename_i e
      obtain ⟨-, e⟩ := e
      generalize (recG s k).2 = a at *
      generalize (recG s k).1 = ps at *
      unfold recS at e
      simp only [Bool.and_eq_true, decide_eq_true_eq] at e
      obtain ⟨⟨e1, e2⟩, e3⟩ := e
      unfold nxtS
      obtain ⟨r, hr⟩ : ∃ r, r = s.extract a s.size := ⟨_, rfl⟩
      rw [← hr] at e1 e2 e3 ⊢
      have hrl : r.data.toList = s.data.toList.drop a := by rw [hr, ext_list, ← ba_size, List.take_length]
      unfold okS at e1
      rw [Bool.and_eq_true, decide_eq_true_eq] at e1
      have q1 := ba_eq e1.2
      rw [ext_list, List.drop_zero, hrl] at q1
      have hS := ba_size s
      have t1 : s.data.toList.take (a + endS r) = albL ps ++ (picS r).txt := by
        rw [List.take_add, h1, q1]
      have q3 := ba_eq e3
      rw [ext_list, ext_list, List.drop_zero, t1] at q3
      have t2 : s.data.toList.take (a + endS r + 2) = albL ps ++ (picS r).txt ++ ckB (albL ps ++ (picS r).txt) := by
        have hdt := List.take_append_drop (a + endS r) (s.data.toList.take (a + endS r + 2))
        rw [q3, List.take_take, Nat.min_eq_left (by omega), t1] at hdt
        exact hdt.symm
      refine ⟨?_, e2, fun p hp => ?_⟩
      · show s.data.toList.take (a + endS r + 2) = albL (ps ++ [picS r])
        rw [t2, albL_app]
      · rcases List.mem_append.1 hp with hp | hp
        · exact h3 p hp
        · rw [List.mem_singleton] at hp; rw [hp]; exact okS_pic e1.1
    · exact ⟨h1, h2, h3⟩
/-- Pictures with whose bytes a text begins are recovered. -/
theorem recG_all' (s : ByteArray) : ∀ (n : Nat) (qs : List PicB), qs.length = n → (∀ p ∈ qs, p.ok) → (∃ e, s.data.toList = albL qs ++ e) → Sames (recG s qs.length).1 qs ∧ (recG s qs.length).2 = (albL qs).length := by
  intro n
  induction n with
  | zero => intro qs hn _ _; rw [List.length_eq_zero_iff.1 hn]; exact ⟨.nil, rfl⟩
  | succ n IH =>
  intro qs hn
  rcases List.eq_nil_or_concat qs with rfl | ⟨ps, p, rfl⟩
  · intro _ _; exact ⟨.nil, rfl⟩
  · intro hok he
    rw [List.concat_eq_append] at hok he ⊢
    obtain ⟨ext, he⟩ := he
    rw [List.concat_eq_append, List.length_append, List.length_singleton] at hn
    have ih := IH ps (by omega) (fun q hq => hok q (by simp [hq])) ⟨p.txt ++ ckB (albL ps ++ p.txt) ++ ext, by rw [he, albL_app]; simp⟩
    have hpk := hok p (by simp)
    have hlen : (recG s ps.length).1.length = ps.length := ih.1.length_eq
    rw [List.length_append, List.length_singleton]
    obtain ⟨a, ha⟩ : ∃ a, a = (recG s ps.length).2 := ⟨_, rfl⟩
    have haL : a = (albL ps).length := by rw [ha, ih.2]
    have hsz := ba_size s
    have hr : (s.extract a s.size).data.toList = p.txt ++ (ckB (albL ps ++ p.txt) ++ ext) := by
      rw [ext_list, ← hsz, List.take_length, he, albL_app, haL, List.append_assoc, List.append_assoc, List.drop_left]
    obtain ⟨o1, o2, o3⟩ := okS_of hpk hr
    have hS : s.size = (albL ps).length + p.txt.length + 2 + ext.length := by
      rw [← hsz, he, albL_app, List.length_append, List.length_append, List.length_append, ckB_len]
    have c1 : (s.extract 0 (a + p.txt.length)).data.toList = albL ps ++ p.txt := by
      rw [ext_list, List.drop_zero, he, albL_app, List.append_assoc, haL, ← List.length_append, List.take_left]
    have c2 : (s.extract (a + p.txt.length) (a + p.txt.length + 2)).data.toList = ckB (albL ps ++ p.txt) := by
      rw [ext_list, he, albL_app, haL, ← List.length_append, List.take_append_of_le_length (by have := ckB_len (albL ps ++ p.txt); rw [List.length_append (bs := ckB _)]; omega)]
      rw [List.take_of_length_le (by have := ckB_len (albL ps ++ p.txt); rw [List.length_append (bs := ckB _)]; omega), List.drop_left]
    have hrec : recS s (recG s ps.length).2 = true := by
      rw [← ha]
      unfold recS
      simp only [Bool.and_eq_true, decide_eq_true_eq]
      rw [o3]
      exact ⟨⟨o1, by omega⟩, by rw [c1]; exact ba_of c2⟩
    rw [recG_go hlen hrec]
    refine ⟨?_, ?_⟩
    · exact ih.1.append (.cons (by unfold nxtS; rw [← ha]; exact o2) .nil)
    · unfold nxtS
      dsimp only
      rw [← ha, o3, albL_app, List.length_append, List.length_append, ckB_len, haL]
theorem recG_all (s : ByteArray) (qs : List PicB) (h : ∀ p ∈ qs, p.ok) (he : ∃ e, s.data.toList = albL qs ++ e) : Sames (recG s qs.length).1 qs ∧ (recG s qs.length).2 = (albL qs).length := recG_all' s _ qs rfl h he

end Go.Proofs.Ytkifhajkmgeafaa
