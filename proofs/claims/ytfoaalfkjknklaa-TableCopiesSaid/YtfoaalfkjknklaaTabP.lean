/- The plain table: sorted lists of keys with values. Plain Lean; conditions: each lemma's own. -/
import Derived.Test.YtfoaalfkjknklaaTabD
namespace Go.Proofs.Ytfoaalfkjknklaa
open Go.RowKit
section
variable {κ ν : Type} {cmp : κ → κ → Int} {l : List (κ × ν)}

theorem srt_nil : Srt cmp ([] : List (κ × ν)) := List.Pairwise.nil
theorem tix_cons (a : κ × ν) (l : List (κ × ν)) (k : κ) : tix cmp (a :: l) k = if cmp a.1 k < 0 then tix cmp l k + 1 else 0 := by
  unfold tix; rw [List.takeWhile_cons]; by_cases h : cmp a.1 k < 0 <;> simp [h]
theorem tix_before (k : κ) : ∀ t (h : t < l.length), t < tix cmp l k → cmp l[t].1 k < 0 := by
  induction l with
  | nil => intro t h; simp at h
  | cons a l ih =>
    intro t h ht
    rw [tix_cons] at ht
    split at ht
    · cases t with
      | zero => assumption
      | succ t => exact ih t (by simpa using h) (by omega)
    · omega
theorem tix_after (hc : CmpOk cmp) (hs : Srt cmp l) (k : κ) : ∀ t (h : t < l.length), tix cmp l k ≤ t → 0 ≤ cmp l[t].1 k := by
  induction l with
  | nil => intro t h; simp at h
  | cons a l ih =>
    intro t h ht
    rw [tix_cons] at ht
    obtain ⟨h1, h2⟩ := List.pairwise_cons.1 hs
    split at ht
    · cases t with
      | zero => omega
      | succ t => exact ih h2 t (by simpa using h) (by omega)
    · cases t with
      | zero => show 0 ≤ cmp a.1 k; omega
      | succ t =>
        have hlt : t < l.length := by simpa using h
        show 0 ≤ cmp l[t].1 k
        rcases Int.lt_or_le (cmp l[t].1 k) 0 with h0 | h0
        · have := hc.trans _ _ _ (h1 _ (List.getElem_mem hlt)) h0
          omega
        · exact h0
theorem tget_iff (hc : CmpOk cmp) (hs : Srt cmp l) {k : κ} {e : κ × ν} : tget cmp l k = some e ↔ e ∈ l ∧ e.1 = k := by
  constructor
  · intro h
    obtain ⟨h1, h2⟩ := tget_eq h
    exact ⟨List.mem_of_getElem? h1, (hc.eq _ _).1 h2⟩
  · rintro ⟨hm, rfl⟩
    obtain ⟨i, hi, rfl⟩ := List.mem_iff_getElem.1 hm
    have hz : cmp l[i].1 l[i].1 = 0 := (hc.eq _ _).2 rfl
    have ht : tix cmp l l[i].1 = i := tix_of (by omega) (fun t h hlt => List.pairwise_iff_getElem.1 hs _ _ h hi hlt) (fun t h hle => by
      rcases Nat.eq_or_lt_of_le hle with he | hlt
      · subst he; omega
      · have := List.pairwise_iff_getElem.1 hs _ _ hi h hlt
        have := (hc.flip _ _).1 this
        omega)
    exact tget_some (by rw [ht]; exact List.getElem?_eq_getElem hi) hz
theorem tget_none_iff (hc : CmpOk cmp) (hs : Srt cmp l) {k : κ} : tget cmp l k = none ↔ ∀ x, (k, x) ∉ l := by
  constructor
  · intro h x hm
    rw [(tget_iff hc hs).2 ⟨hm, rfl⟩] at h
    cases h
  · intro h
    cases hq : tget cmp l k with
    | none => rfl
    | some e =>
      obtain ⟨h1, rfl⟩ := (tget_iff hc hs).1 hq
      exact absurd h1 (h e.2)
theorem srt_tset (hc : CmpOk cmp) (hs : Srt cmp l) (k : κ) (x : ν) : Srt cmp (tset cmp l k x) := by
  unfold tset
  cases hq : tget cmp l k with
  | some e =>
    obtain ⟨hi, he⟩ := tget_lt hq
    have hm : (l.set (tix cmp l k) (e.1, x)).map (·.1) = l.map (·.1) := by
      rw [List.map_set]
      simp only
      rw [← he]
      apply List.ext_getElem? 
      intro j
      rw [List.getElem?_set]
      split
      · rename_i h; subst h; simp [hi]
      · rfl
    unfold Srt
    have h1 : (l.map (·.1)).Pairwise (fun a b => cmp a b < 0) := List.pairwise_map.2 hs
    rw [← hm] at h1
    exact List.pairwise_map.1 h1
  | none =>
    have hno := (tget_none_iff hc hs).1 hq
    show List.Pairwise _ (l.take (tix cmp l k) ++ (k, x) :: l.drop (tix cmp l k))
    rw [List.pairwise_append, List.pairwise_cons]
    have hb := tix_before (cmp := cmp) (l := l) k
    have ha := tix_after hc hs k
    refine ⟨List.Pairwise.sublist (List.take_sublist _ _) hs, ⟨fun b hb' => ?_, List.Pairwise.sublist (List.drop_sublist _ _) hs⟩, fun a ha' b hb' => ?_⟩
    · obtain ⟨j, hj, rfl⟩ := List.mem_iff_getElem.1 hb'
      rw [List.getElem_drop]
      have h0 := ha (tix cmp l k + j) (by simp at hj; omega) (by omega)
      rcases Int.lt_or_eq_of_le h0 with h1 | h1
      · exact (hc.flip _ _).2 h1
      · have := (hc.eq _ _).1 h1.symm
        have hm : l[tix cmp l k + j]'(by simp at hj; omega) ∈ l := List.getElem_mem _
        generalize l[tix cmp l k + j]'(by simp at hj; omega) = q at *
        exact absurd (show (k, q.2) ∈ l from by rw [← this]; exact hm) (hno _)
    · obtain ⟨i, hi, rfl⟩ := List.mem_iff_getElem.1 ha'
      simp only [List.length_take] at hi
      rw [List.getElem_take]
      have h0 := hb i (by omega) (by omega)
      rcases List.mem_cons.1 hb' with rfl | hb'
      · exact h0
      · obtain ⟨j, hj, rfl⟩ := List.mem_iff_getElem.1 hb'
        rw [List.getElem_drop]
        exact List.pairwise_iff_getElem.1 hs _ _ (by omega) (by simp at hj; omega) (by omega)
theorem length_tset (k : κ) (x : ν) : (tset cmp l k x).length ≤ l.length + 1 := by
  unfold tset
  split
  · simp
  · have := tix_le (cmp := cmp) l k; simp; omega
theorem mem_tset (hc : CmpOk cmp) (hs : Srt cmp l) {k : κ} {x : ν} {e : κ × ν} : e ∈ tset cmp l k x ↔ e = (k, x) ∨ (e.1 ≠ k ∧ e ∈ l) := by
  unfold tset
  cases hq : tget cmp l k with
  | some e0 =>
    obtain ⟨hi, he⟩ := tget_lt hq
    obtain ⟨hm0, hk0⟩ := (tget_iff hc hs).1 hq
    show e ∈ l.set (tix cmp l k) (e0.1, x) ↔ _
    rw [hk0]
    constructor
    · intro h
      obtain ⟨j, hj, rfl⟩ := List.mem_iff_getElem.1 h
      rw [List.getElem_set]
      split
      · exact .inl rfl
      · rename_i hne
        rw [List.length_set] at hj
        refine .inr ⟨fun hk => hne ?_, List.getElem_mem _⟩
        have hz : cmp l[j].1 k = 0 := (hc.eq _ _).2 hk
        rcases Nat.lt_trichotomy (tix cmp l k) j with h1 | h1 | h1
        · have := List.pairwise_iff_getElem.1 hs _ _ hi hj h1
          rw [he, hk0, hk, (hc.eq _ _).2 rfl] at this
          omega
        · exact h1
        · have := tix_before (cmp := cmp) (l := l) k j hj h1
          omega
    · rintro (rfl | ⟨hne, hm⟩)
      · exact List.mem_iff_getElem.2 ⟨tix cmp l k, by simpa using hi, by simp⟩
      · obtain ⟨j, hj, rfl⟩ := List.mem_iff_getElem.1 hm
        refine List.mem_iff_getElem.2 ⟨j, by simpa using hj, ?_⟩
        rw [List.getElem_set, if_neg]
        rintro rfl
        rw [he] at hne
        exact hne hk0
  | none =>
    have hno := (tget_none_iff hc hs).1 hq
    show e ∈ l.take (tix cmp l k) ++ (k, x) :: l.drop (tix cmp l k) ↔ _
    rw [List.mem_append, List.mem_cons]
    have hl : e ∈ l ↔ e ∈ l.take (tix cmp l k) ∨ e ∈ l.drop (tix cmp l k) := by rw [← List.mem_append, List.take_append_drop]
    constructor
    · rintro (h | h | h)
      · exact .inr ⟨fun hk => hno e.2 (by rw [← hk]; exact hl.2 (.inl h)), hl.2 (.inl h)⟩
      · exact .inl h
      · exact .inr ⟨fun hk => hno e.2 (by rw [← hk]; exact hl.2 (.inr h)), hl.2 (.inr h)⟩
    · rintro (h | ⟨_, h⟩)
      · exact .inr (.inl h)
      · rcases hl.1 h with h | h
        · exact .inl h
        · exact .inr (.inr h)
def tval (cmp : κ → κ → Int) (l : List (κ × ν)) (k : κ) : Option ν := (tget cmp l k).map (·.2)
theorem tval_iff (hc : CmpOk cmp) (hs : Srt cmp l) {k : κ} {x : ν} : tval cmp l k = some x ↔ (k, x) ∈ l := by
  unfold tval
  rw [Option.map_eq_some_iff]
  constructor
  · rintro ⟨e, h, rfl⟩
    obtain ⟨h1, rfl⟩ := (tget_iff hc hs).1 h
    exact h1
  · intro h
    exact ⟨_, (tget_iff hc hs).2 ⟨h, rfl⟩, rfl⟩
theorem tval_tset (hc : CmpOk cmp) (hs : Srt cmp l) (k : κ) (x : ν) (k' : κ) [DecidableEq κ] : tval cmp (tset cmp l k x) k' = if k' = k then some x else tval cmp l k' := by
  apply Option.ext
  intro y
  rw [tval_iff hc (srt_tset hc hs k x), mem_tset hc hs]
  split
  · rename_i h
    subst h
    simp [eq_comm]
  · rename_i h
    rw [tval_iff hc hs]
    simp [h]
def tinc (cmp : κ → κ → Int) (l : List (κ × Int)) (k : κ) : List (κ × Int) := tset cmp l k (wrap64 ((tval cmp l k).getD 0 + 1))
def tcount (cmp : κ → κ → Int) (ks : List κ) : List (κ × Int) := ks.foldl (tinc cmp) []
theorem tcount_snoc (ks : List κ) (k : κ) : tcount cmp (ks ++ [k]) = tinc cmp (tcount cmp ks) k := by simp [tcount]
theorem srt_tcount (hc : CmpOk cmp) (ks : List κ) : Srt cmp (tcount cmp ks) := by
  rcases List.eq_nil_or_concat ks with rfl | ⟨a, b, rfl⟩
  · exact srt_nil
  · unfold tcount
    rw [← List.reverse_reverse (a.concat b)]
    induction (a.concat b).reverse with
    | nil => exact srt_nil
    | cons x l ih => simp only [List.reverse_cons, List.foldl_append, List.foldl_cons, List.foldl_nil]; exact srt_tset hc ih _ _
theorem length_tcount (ks : List κ) : (tcount cmp ks).length ≤ ks.length := by
  rw [← List.reverse_reverse ks]
  induction ks.reverse with
  | nil => simp [tcount]
  | cons x l ih => rw [List.reverse_cons, tcount_snoc]; have := length_tset (cmp := cmp) (l := tcount cmp l.reverse) x (wrap64 ((tval cmp (tcount cmp l.reverse) x).getD 0 + 1)); simp only [tinc, List.length_append, List.length_cons, List.length_nil]; omega
end
end Go.Proofs.Ytfoaalfkjknklaa
