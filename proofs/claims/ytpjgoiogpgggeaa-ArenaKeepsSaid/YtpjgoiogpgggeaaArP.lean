/- The arena, plainly: what give, free and put do to the blocks and to what they hold. Conditions: each lemma's own. -/
import Derived.Test.YtpjgoiogpgggeaaArK
namespace Go.Proofs.Ytpjgoiogpgggeaa
open Go.RowKit
def Wds : List Bk → Nat
  | [] => 0
  | b :: r => b.w + Wds r
theorem wds_append (a b : List Bk) : Wds (a ++ b) = Wds a + Wds b := by
  induction a with
  | nil => simp [Wds]
  | cons x a ih => simp only [List.cons_append, Wds, ih]; omega
theorem Fit.wds {lo hi : Nat} {l : List Bk} (h : Fit lo hi l) : lo + Wds l ≤ hi := by
  induction l generalizing lo with
  | nil => have : lo ≤ hi := h; simpa [Wds] using this
  | cons b r ih => obtain ⟨h1, _, h3⟩ := h; have := ih h3; simp only [Wds]; omega
theorem Fit.hi {lo hi hi' : Nat} {l : List Bk} (h : Fit lo hi l) (hh : hi ≤ hi') : Fit lo hi' l := by
  induction l generalizing lo with
  | nil => exact Nat.le_trans h hh
  | cons b r ih => exact ⟨h.1, h.2.1, ih h.2.2⟩
theorem Fit.mem {lo hi : Nat} {l : List Bk} (h : Fit lo hi l) {b : Bk} (hb : b ∈ l) : lo ≤ b.f ∧ 1 ≤ b.w ∧ b.f + b.w ≤ hi := by
  induction l generalizing lo with
  | nil => cases hb
  | cons c r ih =>
    have hh := h.head
    obtain ⟨h1, h2, h3⟩ := h
    rcases List.mem_cons.1 hb with rfl | hb
    · exact ⟨h1, h2, hh⟩
    · have := ih h3 hb; omega
theorem Fit.length {lo hi : Nat} {l : List Bk} (h : Fit lo hi l) : lo + l.length ≤ hi := by
  induction l generalizing lo with
  | nil => have : lo ≤ hi := h; simpa using this
  | cons b r ih => obtain ⟨h1, h2, h3⟩ := h; have := ih h3; simp only [List.length_cons]; omega
theorem Fit.del {lo hi : Nat} {l : List Bk} (h : Fit lo hi l) (i : Nat) : Fit lo hi (l.take i ++ l.drop (i + 1)) := by
  induction l generalizing lo i with
  | nil => simpa using h
  | cons b r ih =>
    obtain ⟨h1, h2, h3⟩ := h
    cases i with
    | zero => simp only [List.take_zero, List.nil_append, List.drop_succ_cons, List.drop_zero]; exact h3.lo (by omega)
    | succ i => simp only [List.take_succ_cons, List.cons_append, List.drop_succ_cons]; exact ⟨h1, h2, ih h3 i⟩
/-- A block lies ahead of all behind it. -/
theorem Fit.pair {lo hi : Nat} {l : List Bk} (h : Fit lo hi l) {i j : Nat} (hij : i < j) (hj : j < l.length) : l[i].f + l[i].w ≤ l[j].f := by
  induction l generalizing lo i j with
  | nil => simp at hj
  | cons b r ih =>
    obtain ⟨h1, h2, h3⟩ := h
    cases j with
    | zero => omega
    | succ j =>
      cases i with
      | zero => exact (h3.mem (List.getElem_mem (by simpa using hj))).1
      | succ i => exact ih h3 (by omega) (by simpa using hj)
theorem gap_spec {cap n lo hi i f j : Nat} {l : List Bk} (h : Fit lo hi l) (hc : hi ≤ cap) (hn : 1 ≤ n) (hg : gapOf cap n l lo i = some (f, j)) :
    i ≤ j ∧ j - i ≤ l.length ∧ f + n ≤ cap ∧ lo ≤ f ∧ (∀ b ∈ l.take (j - i), b.f + b.w ≤ f) ∧ (∀ b ∈ l.drop (j - i), f + n ≤ b.f) ∧ ∀ hh, Fit lo (max hi (f + n)) (l.take (j - i) ++ ⟨hh, f, n⟩ :: l.drop (j - i)) := by
  induction l generalizing lo i with
  | nil =>
    unfold gapOf at hg
    split at hg
    · injection hg with hg; injection hg with h1 h2; subst h1; subst h2
      refine ⟨Nat.le_refl _, by simp, by omega, Nat.le_refl _, by simp, by simp, fun hh => ?_⟩
      simp only [Nat.sub_self, List.take_zero, List.nil_append, List.drop_zero]
      exact ⟨Nat.le_refl _, hn, by show lo + n ≤ max hi (lo + n); omega⟩
    · cases hg
  | cons b r ih =>
    unfold gapOf at hg
    have hhd := h.head
    split at hg
    · injection hg with hg; injection hg with h1 h2; subst h1; subst h2
      rename_i hfit
      refine ⟨Nat.le_refl _, by simp, by omega, Nat.le_refl _, by simp, ?_, fun hh => ?_⟩
      · intro c hcm
        simp only [Nat.sub_self, List.drop_zero] at hcm
        rcases List.mem_cons.1 hcm with rfl | hcm
        · exact hfit
        · have := (h.2.2.mem hcm).1; omega
      · simp only [Nat.sub_self, List.take_zero, List.nil_append, List.drop_zero]
        exact ⟨Nat.le_refl _, hn, (show Fit _ _ (b :: r) from ⟨hfit, h.2.1, h.2.2⟩).hi (by omega)⟩
    · obtain ⟨h1, h2, h3⟩ := h
      obtain ⟨q1, q2, q3, q4, q5, q6, q7⟩ := ih h3 hg
      have e : j - i = (j - (i + 1)) + 1 := by omega
      rw [e]
      simp only [List.take_succ_cons, List.drop_succ_cons, List.cons_append]
      refine ⟨by omega, by simp only [List.length_cons]; omega, q3, by omega, ?_, q6, fun hh => ⟨h1, h2, q7 hh⟩⟩
      intro c hcm
      rcases List.mem_cons.1 hcm with rfl | hcm
      · omega
      · exact q5 c hcm
def Contig : Nat → List Bk → Prop
  | _, [] => True
  | fr, b :: r => b.f = fr ∧ Contig (fr + b.w) r
theorem gap_contig {cap n fr i : Nat} {l : List Bk} (h : Contig fr l) (hn : 1 ≤ n) : gapOf cap n l fr i = if fr + Wds l + n ≤ cap then some (fr + Wds l, i + l.length) else none := by
  induction l generalizing fr i with
  | nil => by_cases hh : fr + n ≤ cap <;> simp [gapOf, Wds, hh]
  | cons b r ih =>
    obtain ⟨h1, h2⟩ := h
    unfold gapOf
    rw [if_neg (by omega), h1, ih h2]
    simp only [Wds, List.length_cons]
    rw [show fr + b.w + Wds r = fr + (b.w + Wds r) from by omega, show i + 1 + r.length = i + (r.length + 1) from by omega]
    by_cases hh : fr + (b.w + Wds r) + n ≤ cap <;> simp [hh]
theorem contig_snoc {fr : Nat} {l : List Bk} (h : Contig fr l) (b : Bk) (hb : b.f = fr + Wds l) : Contig fr (l ++ [b]) := by
  induction l generalizing fr with
  | nil => exact ⟨by simpa [Wds] using hb, trivial⟩
  | cons c r ih => exact ⟨h.1, ih h.2 (by rw [hb]; simp only [Wds]; omega)⟩
theorem moveC_get (cs : List Int) (fr f n i : Nat) (h1 : fr ≤ f) (h2 : f + n ≤ cs.length) : (moveC cs fr f n)[i]? = if fr ≤ i ∧ i < fr + n then cs[f + (i - fr)]? else cs[i]? := by
  have hl1 : (cs.take fr).length = fr := by rw [List.length_take]; omega
  have hl2 : ((cs.drop f).take n).length = n := by rw [List.length_take, List.length_drop]; omega
  unfold moveC
  rcases Nat.lt_or_ge i fr with hi | hi
  · rw [if_neg (by omega), List.append_assoc, List.getElem?_append_left (by omega), List.getElem?_take_of_lt hi]
  · rcases Nat.lt_or_ge i (fr + n) with hj | hj
    · rw [if_pos ⟨hi, hj⟩, List.append_assoc, List.getElem?_append_right (by omega), List.getElem?_append_left (by omega), List.getElem?_take_of_lt (by omega), List.getElem?_drop, hl1]
    · rw [if_neg (by omega), List.getElem?_append_right (by rw [List.length_append]; omega), List.getElem?_drop, List.length_append, hl1, hl2]
      congr 1; omega
/-- A block holds xs. -/
def Cont (cs : List Int) (b : Bk) (xs : List Int) : Prop := xs.length = b.w ∧ ∀ j, j < b.w → cs[b.f + j]? = xs[j]?
theorem Cont.get {cs : List Int} {b : Bk} {xs : List Int} (h : Cont cs b xs) (hb : b.f + b.w ≤ cs.length) : (cs.drop b.f).take b.w = xs := by
  apply List.ext_getElem?
  intro j
  rcases Nat.lt_or_ge j b.w with hj | hj
  · rw [List.getElem?_take_of_lt hj, List.getElem?_drop]; exact h.2 j hj
  · rw [List.getElem?_eq_none (by rw [List.length_take]; omega), List.getElem?_eq_none (by rw [h.1]; omega)]
theorem cont_self {cs : List Int} {b : Bk} (hb : b.f + b.w ≤ cs.length) : Cont cs b ((cs.drop b.f).take b.w) :=
  ⟨by rw [List.length_take, List.length_drop]; omega, fun j hj => by rw [List.getElem?_take_of_lt hj, List.getElem?_drop]⟩
theorem Cont.of {cs cs' : List Int} {b b' : Bk} {xs : List Int} (h : Cont cs b xs) (hw : b'.w = b.w) (he : ∀ j, j < b.w → cs'[b'.f + j]? = cs[b.f + j]?) : Cont cs' b' xs :=
  ⟨by rw [hw]; exact h.1, fun j hj => by rw [hw] at hj; rw [he j hj]; exact h.2 j hj⟩
/-- Compaction. -/
theorem slide_spec {lo hi fr : Nat} {l : List Bk} {cs : List Int} (h : Fit lo hi l) (hf : fr ≤ lo) (hc : cs.length = hi) :
    (slide l fr cs).2.length = hi ∧ Fit fr hi (slide l fr cs).1 ∧ Contig fr (slide l fr cs).1 ∧ (slide l fr cs).1.length = l.length ∧ (∀ i, i < fr → (slide l fr cs).2[i]? = cs[i]?) ∧
      ∀ (k : Nat) (b : Bk), l[k]? = some b → ∃ b', (slide l fr cs).1[k]? = some b' ∧ b'.h = b.h ∧ b'.w = b.w ∧ ∀ j, j < b.w → (slide l fr cs).2[b'.f + j]? = cs[b.f + j]? := by
  induction l generalizing lo fr cs with
  | nil => exact ⟨hc, by show fr ≤ hi; exact Nat.le_trans hf h, trivial, rfl, fun i _ => rfl, fun k b hk => by simp at hk⟩
  | cons b r ih =>
    have hhd := h.head
    obtain ⟨h1, h2, h3⟩ := h
    have hml := moveC_length cs fr b.f b.w (by omega) (by omega)
    obtain ⟨q1, q2, q3, q4, q5, q6⟩ := ih (fr := fr + b.w) (cs := moveC cs fr b.f b.w) h3 (by omega) (by omega)
    simp only [slide]
    refine ⟨q1, ⟨Nat.le_refl _, h2, q2⟩, ⟨rfl, q3⟩, by simp only [List.length_cons, q4], fun i hi => ?_, fun k c hk => ?_⟩
    · rw [q5 i (by omega), moveC_get cs fr b.f b.w i (by omega) (by omega), if_neg (by omega)]
    · cases k with
      | zero =>
        simp only [List.getElem?_cons_zero, Option.some.injEq] at hk
        subst hk
        refine ⟨_, rfl, rfl, rfl, fun j hj => ?_⟩
        rw [q5 _ (by show fr + j < _; omega), moveC_get cs fr b.f b.w _ (by omega) (by omega), if_pos ⟨by show fr ≤ fr + j; omega, by show fr + j < _; omega⟩]
        congr 1; show b.f + (fr + j - fr) = _; omega
      | succ k =>
        simp only [List.getElem?_cons_succ] at hk
        obtain ⟨b', p1, p2, p3, p4⟩ := q6 k c hk
        refine ⟨b', by simpa using p1, p2, p3, fun j hj => ?_⟩
        have hcm := h3.mem (List.mem_of_getElem? hk)
        rw [p4 j hj, moveC_get cs fr b.f b.w _ (by omega) (by omega), if_neg (by omega)]
theorem slide_wds (l : List Bk) (fr : Nat) (cs : List Int) : Wds (slide l fr cs).1 = Wds l ∧ (slide l fr cs).1.map Bk.h = l.map Bk.h := by
  induction l generalizing fr cs with
  | nil => exact ⟨rfl, rfl⟩
  | cons b r ih => simp only [slide, Wds, List.map_cons, (ih _ _).1, (ih _ _).2, and_self]
theorem growTo_get (cs : List Int) (t i : Nat) (hi : i < cs.length) : (growTo cs t)[i]? = cs[i]? := by unfold growTo; rw [List.getElem?_append_left hi]
theorem growTo_length (cs : List Int) (t : Nat) : (growTo cs t).length = max cs.length t := by simp [growTo]; omega
theorem clearC_length (cs : List Int) (f n : Nat) (h : f + n ≤ cs.length) : (clearC cs f n).length = cs.length := by unfold clearC; simp only [List.length_append, List.length_take, List.length_drop, List.length_replicate]; omega
theorem clearC_get (cs : List Int) (f n i : Nat) (h : f + n ≤ cs.length) : (clearC cs f n)[i]? = if f ≤ i ∧ i < f + n then some 0 else cs[i]? := by
  have hl1 : (cs.take f).length = f := by rw [List.length_take]; omega
  unfold clearC
  rcases Nat.lt_or_ge i f with hi | hi
  · rw [if_neg (by omega), List.append_assoc, List.getElem?_append_left (by omega), List.getElem?_take_of_lt hi]
  · rcases Nat.lt_or_ge i (f + n) with hj | hj
    · rw [if_pos ⟨hi, hj⟩, List.append_assoc, List.getElem?_append_right (by omega), List.getElem?_append_left (by rw [List.length_replicate]; omega), hl1, List.getElem?_replicate, if_pos (by omega)]
    · rw [if_neg (by omega), List.getElem?_append_right (by rw [List.length_append, List.length_replicate]; omega), List.getElem?_drop, List.length_append, hl1, List.length_replicate]
      congr 1; omega
theorem putC_get (cs ys : List Int) (f i : Nat) (h : f + ys.length ≤ cs.length) : (putC cs f ys)[i]? = if f ≤ i ∧ i < f + ys.length then ys[i - f]? else cs[i]? := by
  have hl1 : (cs.take f).length = f := by rw [List.length_take]; omega
  unfold putC
  rcases Nat.lt_or_ge i f with hi | hi
  · rw [if_neg (by omega), List.append_assoc, List.getElem?_append_left (by omega), List.getElem?_take_of_lt hi]
  · rcases Nat.lt_or_ge i (f + ys.length) with hj | hj
    · rw [if_pos ⟨hi, hj⟩, List.append_assoc, List.getElem?_append_right (by omega), List.getElem?_append_left (by omega), hl1]
    · rw [if_neg (by omega), List.getElem?_append_right (by rw [List.length_append]; omega), List.getElem?_drop, List.length_append, hl1]
      congr 1; omega
theorem putC_length (cs ys : List Int) (f : Nat) (h : f + ys.length ≤ cs.length) : (putC cs f ys).length = cs.length := by unfold putC; simp only [List.length_append, List.length_take, List.length_drop]; omega
structure Inv (a : Ar) : Prop where
  fit : Fit 0 a.high a.l
  cl : a.cells.length = a.high
  hc : a.high ≤ a.cap
  lv : a.live = Wds a.l
  hl : ∀ b ∈ a.l, 1 ≤ b.h ∧ b.h ≤ a.last
  nd : (a.l.map Bk.h).Nodup
  pk : a.live ≤ a.peak ∧ a.peak ≤ a.cap
theorem Inv.live {a : Ar} (h : Inv a) : a.live ≤ a.high := by have := h.fit.wds; rw [h.lv]; omega
def newA (cap : Nat) : Ar := ⟨cap, [], [], 0, 0, 0, 0, 0⟩
theorem inv_new (cap : Nat) : Inv (newA cap) := ⟨Nat.le_refl 0, rfl, Nat.zero_le _, rfl, by simp [newA], by simp [newA], ⟨Nat.le_refl _, Nat.zero_le _⟩⟩
/-- Give, where it gives. -/
def giveOk (a : Ar) (n : Nat) : Ar :=
  match gapOf a.cap n a.l 0 0 with
  | some p => giveAt a p.1 p.2 n
  | none => giveAt (compactA a) (compactA a).live (compactA a).l.length n
theorem inv_compact {a : Ar} (h : Inv a) : Inv (compactA a) := by
  obtain ⟨q1, q2, q3, q4, q5, q6⟩ := slide_spec (fr := 0) (cs := a.cells) h.fit (Nat.le_refl _) h.cl
  obtain ⟨w1, w2⟩ := slide_wds a.l 0 a.cells
  refine ⟨q2, q1, h.hc, by show a.live = _; rw [h.lv]; exact w1.symm, fun b hb => ?_, by show ((slide a.l 0 a.cells).1.map Bk.h).Nodup; rw [w2]; exact h.nd, h.pk⟩
  have : b.h ∈ a.l.map Bk.h := by rw [← w2]; exact List.mem_map_of_mem hb
  obtain ⟨c, hc, he⟩ := List.mem_map.1 this
  rw [← he]; exact h.hl c hc
theorem inv_giveAt {a : Ar} {n f j : Nat} (h : Inv a) (hn : 1 ≤ n) (hf : a.live + n ≤ a.cap) (hg : gapOf a.cap n a.l 0 0 = some (f, j)) : Inv (giveAt a f j n) := by
  obtain ⟨q1, q2, q3, q4, q5, q6, q7⟩ := gap_spec h.fit h.hc hn hg
  simp only [Nat.sub_zero] at q2 q5 q6 q7
  have hp := h.pk
  refine ⟨q7 _, ?_, ?_, ?_, ?_, ?_, ?_⟩
  · show (clearC (growTo a.cells (f + n)) f n).length = max a.high (f + n)
    rw [clearC_length _ _ _ (by rw [growTo_length]; omega), growTo_length, h.cl]
  · show max a.high (f + n) ≤ a.cap; have := h.hc; omega
  · show a.live + n = Wds (a.l.take j ++ ⟨a.last + 1, f, n⟩ :: a.l.drop j)
    rw [wds_append]; simp only [Wds]
    have : Wds a.l = Wds (a.l.take j) + Wds (a.l.drop j) := by rw [← wds_append, List.take_append_drop]
    rw [h.lv]; omega
  · intro b hb
    show 1 ≤ b.h ∧ b.h ≤ a.last + 1
    rcases List.mem_append.1 hb with hb | hb
    · have := h.hl b (List.mem_of_mem_take hb); omega
    · rcases List.mem_cons.1 hb with rfl | hb
      · exact ⟨by show 1 ≤ a.last + 1; omega, Nat.le_refl _⟩
      · have := h.hl b (List.mem_of_mem_drop hb); omega
  · show ((a.l.take j ++ ⟨a.last + 1, f, n⟩ :: a.l.drop j).map Bk.h).Nodup
    have hnd := h.nd
    rw [← List.take_append_drop j a.l, List.map_append] at hnd
    rw [List.map_append, List.map_cons]
    rw [List.nodup_append] at hnd ⊢
    obtain ⟨n1, n2, n3⟩ := hnd
    have hno : ∀ x ∈ a.l, x.h ≠ a.last + 1 := fun x hx => by have := h.hl x hx; omega
    refine ⟨n1, List.nodup_cons.2 ⟨fun hm => ?_, n2⟩, fun x hx y hy => ?_⟩
    · obtain ⟨c, hc, he⟩ := List.mem_map.1 hm
      exact hno c (List.mem_of_mem_drop hc) he
    · rcases List.mem_cons.1 hy with rfl | hy
      · obtain ⟨c, hc, he⟩ := List.mem_map.1 hx
        rw [← he]; exact hno c (List.mem_of_mem_take hc)
      · exact n3 x hx y hy
  · show a.live + n ≤ max a.peak (a.live + n) ∧ max a.peak (a.live + n) ≤ a.cap
    omega
theorem gap_compact {a : Ar} {n : Nat} (h : Inv a) (hn : 1 ≤ n) (hf : a.live + n ≤ a.cap) : gapOf (compactA a).cap n (compactA a).l 0 0 = some ((compactA a).live, (compactA a).l.length) := by
  obtain ⟨q1, q2, q3, q4, q5, q6⟩ := slide_spec (fr := 0) (cs := a.cells) h.fit (Nat.le_refl _) h.cl
  have := gap_contig (cap := a.cap) (n := n) (fr := 0) (i := 0) (l := (compactA a).l) q3 hn
  have hw : Wds (compactA a).l = a.live := by rw [← (inv_compact h).lv]; rfl
  rw [hw, if_pos (by omega), Nat.zero_add, Nat.zero_add] at this
  exact this
theorem inv_giveOk {a : Ar} {n : Nat} (h : Inv a) (hn : 1 ≤ n) (hf : a.live + n ≤ a.cap) : Inv (giveOk a n) := by
  unfold giveOk
  cases hg : gapOf a.cap n a.l 0 0 with
  | some p => exact inv_giveAt h hn hf hg
  | none => exact inv_giveAt (inv_compact h) hn hf (gap_compact h hn hf)
theorem nodup_sub {l m : List Nat} (hl : l.Nodup) (hs : ∀ x ∈ l, x ∈ m) : l.length ≤ m.length := by
  induction l generalizing m with
  | nil => simp
  | cons x l ih =>
    obtain ⟨h1, h2⟩ := List.nodup_cons.1 hl
    have hx := hs x (by simp)
    have := ih h2 (m := m.erase x) fun y hy => (List.mem_erase_of_ne (by rintro rfl; exact h1 hy)).2 (hs y (by simp [hy]))
    rw [List.length_erase_of_mem hx] at this
    have : 0 < m.length := List.length_pos_of_mem hx
    simp only [List.length_cons]; omega
/-- The block of handle h holds xs. -/
def Has (a : Ar) (h : Nat) (xs : List Int) : Prop := ∃ b ∈ a.l, b.h = h ∧ Cont a.cells b xs
theorem has_giveAt {a : Ar} {n f j h : Nat} {xs : List Int} (hI : Inv a) (hn : 1 ≤ n) (hg : gapOf a.cap n a.l 0 0 = some (f, j)) (hh : Has a h xs) : Has (giveAt a f j n) h xs := by
  obtain ⟨q1, q2, q3, q4, q5, q6, q7⟩ := gap_spec hI.fit hI.hc hn hg
  simp only [Nat.sub_zero] at q2 q5 q6 q7
  obtain ⟨b, hb, rfl, hc⟩ := hh
  have hbm := hI.fit.mem hb
  have hbd : b ∈ a.l.take j ∨ b ∈ a.l.drop j := by rw [← List.take_append_drop j a.l] at hb; exact List.mem_append.1 hb
  refine ⟨b, ?_, rfl, hc.of rfl fun i hi => ?_⟩
  · show b ∈ a.l.take j ++ _ :: a.l.drop j
    rcases hbd with h1 | h1
    · exact List.mem_append_left _ h1
    · exact List.mem_append_right _ (List.mem_cons_of_mem _ h1)
  · show (clearC (growTo a.cells (f + n)) f n)[b.f + i]? = _
    rw [clearC_get _ _ _ _ (by rw [growTo_length]; omega), if_neg ?_, growTo_get _ _ _ (by rw [hI.cl]; omega)]
    rcases hbd with h1 | h1
    · have := q5 b h1; omega
    · have := q6 b h1; omega
theorem has_compact {a : Ar} {h : Nat} {xs : List Int} (hI : Inv a) (hh : Has a h xs) : Has (compactA a) h xs := by
  obtain ⟨q1, q2, q3, q4, q5, q6⟩ := slide_spec (fr := 0) (cs := a.cells) hI.fit (Nat.le_refl _) hI.cl
  obtain ⟨b, hb, rfl, hc⟩ := hh
  obtain ⟨k, hk⟩ := List.mem_iff_getElem?.1 hb
  obtain ⟨b', p1, p2, p3, p4⟩ := q6 k b hk
  exact ⟨b', List.mem_of_getElem? p1, p2, hc.of p3 p4⟩
theorem has_giveOk {a : Ar} {n h : Nat} {xs : List Int} (hI : Inv a) (hn : 1 ≤ n) (hf : a.live + n ≤ a.cap) (hh : Has a h xs) : Has (giveOk a n) h xs := by
  unfold giveOk
  cases hg : gapOf a.cap n a.l 0 0 with
  | some p => exact has_giveAt hI hn hg hh
  | none => exact has_giveAt (inv_compact hI) hn (gap_compact hI hn hf) (has_compact hI hh)
theorem newblk_giveAt {a : Ar} {n f j : Nat} (hI : Inv a) (hn : 1 ≤ n) (hg : gapOf a.cap n a.l 0 0 = some (f, j)) : Has (giveAt a f j n) (a.last + 1) (List.replicate n 0) := by
  refine ⟨⟨a.last + 1, f, n⟩, ?_, rfl, by simp, fun i hi => ?_⟩
  · show _ ∈ a.l.take j ++ _ :: a.l.drop j
    simp
  · show (clearC (growTo a.cells (f + n)) f n)[f + i]? = _
    rw [clearC_get _ _ _ _ (by rw [growTo_length]; omega), if_pos ⟨by omega, by simpa using hi⟩, List.getElem?_replicate, if_pos hi]
theorem giveOk_flds (a : Ar) (n : Nat) : (giveOk a n).cap = a.cap ∧ (giveOk a n).last = a.last + 1 ∧ (giveOk a n).live = a.live + n ∧ (giveOk a n).peak = max a.peak (a.live + n) ∧ (giveOk a n).moves ≤ a.moves + 1 ∧ a.moves ≤ (giveOk a n).moves := by
  unfold giveOk
  cases gapOf a.cap n a.l 0 0 with
  | some p => exact ⟨rfl, rfl, rfl, rfl, Nat.le_succ _, Nat.le_refl _⟩
  | none => exact ⟨rfl, rfl, rfl, rfl, Nat.le_refl _, Nat.le_succ _⟩
theorem newblk_giveOk {a : Ar} {n : Nat} (hI : Inv a) (hn : 1 ≤ n) (hf : a.live + n ≤ a.cap) : Has (giveOk a n) (a.last + 1) (List.replicate n 0) := by
  unfold giveOk
  cases hg : gapOf a.cap n a.l 0 0 with
  | some p => exact newblk_giveAt hI hn hg
  | none => exact newblk_giveAt (inv_compact hI) hn (gap_compact hI hn hf)
/-- Free, where it frees. -/
def freeAt (a : Ar) (i : Nat) : Ar := { a with l := a.l.take i ++ a.l.drop (i + 1), live := a.live - (a.l.getD i ⟨0, 0, 0⟩).w }
theorem inv_freeAt {a : Ar} {i : Nat} (h : Inv a) (hi : i < a.l.length) : Inv (freeAt a i) := by
  have hsplit : a.l = a.l.take i ++ a.l[i] :: a.l.drop (i + 1) := by rw [← List.drop_eq_getElem_cons hi, List.take_append_drop]
  have hw : Wds a.l = Wds (a.l.take i) + (a.l[i].w + Wds (a.l.drop (i + 1))) := by have := congrArg Wds hsplit; rw [wds_append] at this; exact this
  have hlv : (freeAt a i).live = Wds (a.l.take i ++ a.l.drop (i + 1)) := by
    show a.live - (a.l.getD i ⟨0, 0, 0⟩).w = _
    rw [wds_append, h.lv, hw, show a.l.getD i ⟨0, 0, 0⟩ = a.l[i] from by simp [hi]]; omega
  refine ⟨h.fit.del i, h.cl, h.hc, hlv, fun b hb => h.hl b ?_, ?_, ?_⟩
  · rcases List.mem_append.1 hb with hb | hb
    · exact List.mem_of_mem_take hb
    · exact List.mem_of_mem_drop hb
  · have hnd := h.nd
    rw [hsplit, List.map_append, List.map_cons] at hnd
    show ((a.l.take i ++ a.l.drop (i + 1)).map Bk.h).Nodup
    rw [List.map_append]
    rw [List.nodup_append] at hnd ⊢
    obtain ⟨n1, n2, n3⟩ := hnd
    exact ⟨n1, (List.nodup_cons.1 n2).2, fun x hx y hy => n3 x hx y (List.mem_cons_of_mem _ hy)⟩
  · have : (freeAt a i).live ≤ a.live := Nat.sub_le _ _
    exact ⟨by have := h.pk.1; show _ ≤ a.peak; omega, h.pk.2⟩
theorem has_freeAt {a : Ar} {i h : Nat} {xs : List Int} (hi : i < a.l.length) (hne : a.l[i].h ≠ h) (hh : Has a h xs) : Has (freeAt a i) h xs := by
  obtain ⟨b, hb, rfl, hc⟩ := hh
  refine ⟨b, ?_, rfl, hc⟩
  show b ∈ a.l.take i ++ a.l.drop (i + 1)
  obtain ⟨k, hk⟩ := List.mem_iff_getElem?.1 hb
  have hki : k ≠ i := by rintro rfl; rw [List.getElem?_eq_getElem hi] at hk; injection hk with hk; exact hne (by rw [hk])
  rcases Nat.lt_or_ge k i with h1 | h1
  · exact List.mem_append_left _ (List.mem_iff_getElem?.2 ⟨k, by rw [List.getElem?_take_of_lt h1]; exact hk⟩)
  · exact List.mem_append_right _ (List.mem_iff_getElem?.2 ⟨k - (i + 1), by rw [List.getElem?_drop, show i + 1 + (k - (i + 1)) = k from by omega]; exact hk⟩)
/-- Put, where it puts. -/
def putAt (a : Ar) (i : Nat) (ys : List Int) : Ar := { a with cells := putC a.cells (a.l.getD i ⟨0, 0, 0⟩).f ys }
theorem inv_putAt {a : Ar} {i : Nat} {ys : List Int} (h : Inv a) (hi : i < a.l.length) (hy : ys.length = a.l[i].w) : Inv (putAt a i ys) := by
  have hm := h.fit.mem (List.getElem_mem hi)
  refine ⟨h.fit, ?_, h.hc, h.lv, h.hl, h.nd, h.pk⟩
  show (putC a.cells (a.l.getD i ⟨0, 0, 0⟩).f ys).length = _
  rw [show a.l.getD i ⟨0, 0, 0⟩ = a.l[i] from by simp [hi], putC_length _ _ _ (by rw [h.cl]; omega)]; exact h.cl
theorem has_putAt {a : Ar} {i h : Nat} {xs ys : List Int} (hI : Inv a) (hi : i < a.l.length) (hy : ys.length = a.l[i].w) (hne : a.l[i].h ≠ h) (hh : Has a h xs) : Has (putAt a i ys) h xs := by
  obtain ⟨b, hb, rfl, hc⟩ := hh
  have hm := hI.fit.mem (List.getElem_mem hi)
  have hbm := hI.fit.mem hb
  refine ⟨b, hb, rfl, hc.of rfl fun j hj => ?_⟩
  show (putC a.cells (a.l.getD i ⟨0, 0, 0⟩).f ys)[b.f + j]? = _
  rw [show a.l.getD i ⟨0, 0, 0⟩ = a.l[i] from by simp [hi], putC_get _ _ _ _ (by rw [hI.cl]; omega), if_neg]
  obtain ⟨k, hk⟩ := List.mem_iff_getElem?.1 hb
  obtain ⟨hkl, hke⟩ := List.getElem?_eq_some_iff.1 hk
  subst hke
  have hki : k ≠ i := by rintro rfl; exact hne rfl
  rcases Nat.lt_or_gt_of_ne hki with h1 | h1
  · have := hI.fit.pair h1 hi; omega
  · have := hI.fit.pair h1 hkl; omega
theorem has_put_self {a : Ar} {i : Nat} {ys : List Int} (hI : Inv a) (hi : i < a.l.length) (hy : ys.length = a.l[i].w) : Has (putAt a i ys) a.l[i].h ys := by
  have hm := hI.fit.mem (List.getElem_mem hi)
  refine ⟨a.l[i], List.getElem_mem hi, rfl, hy, fun j hj => ?_⟩
  show (putC a.cells (a.l.getD i ⟨0, 0, 0⟩).f ys)[a.l[i].f + j]? = _
  rw [show a.l.getD i ⟨0, 0, 0⟩ = a.l[i] from by simp [hi], putC_get _ _ _ _ (by rw [hI.cl]; omega), if_pos ⟨by omega, by omega⟩]
  congr 1; omega
theorem hix_at {N : Int} {l : List Bk} {i : Nat} (h : hix N l 0 = some i) : ∃ hi : i < l.length, (l[i].h : Int) = N := by
  obtain ⟨_, h2, h3⟩ := hix_some h
  exact ⟨by simpa using h2, by simpa using h3⟩
theorem has_hix {a : Ar} {h : Nat} {xs : List Int} (hI : Inv a) (hh : Has a h xs) : ∃ i, ∃ hi : i < a.l.length, hix h a.l 0 = some i ∧ a.l[i].h = h ∧ Cont a.cells a.l[i] xs := by
  obtain ⟨b, hb, rfl, hc⟩ := hh
  cases hq : hix (b.h : Int) a.l 0 with
  | none => exact absurd rfl (hix_none.1 hq b hb)
  | some i =>
    obtain ⟨hi, he⟩ := hix_at hq
    refine ⟨i, hi, rfl, by omega, ?_⟩
    obtain ⟨k, hk⟩ := List.mem_iff_getElem?.1 hb
    obtain ⟨hkl, hke⟩ := List.getElem?_eq_some_iff.1 hk
    have : k = i := by
      have hnd := List.pairwise_iff_getElem.1 hI.nd
      rcases Nat.lt_trichotomy k i with h1 | h1 | h1
      · have := hnd k i (by simpa using hkl) (by simpa using hi) h1
        simp only [List.getElem_map, hke] at this; omega
      · exact h1
      · have := hnd i k (by simpa using hi) (by simpa using hkl) h1
        simp only [List.getElem_map, hke] at this; omega
    subst this
    rw [hke]; exact hc
end Go.Proofs.Ytpjgoiogpgggeaa
