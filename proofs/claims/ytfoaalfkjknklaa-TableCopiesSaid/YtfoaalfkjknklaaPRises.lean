/- Plain laws: the reference's list of pairs and the sorted table hold the same. Plain Lean. -/
import Derived.Test.YtfoaalfkjknklaaRefT
namespace Go.Proofs.Ytfoaalfkjknklaa
open Go.RowKit
structure Mtch (x l : PL) : Prop where
  keys : (x.map (·.1)).Nodup
  srt : Srt cmpI l
  mem : ∀ e, e ∈ x ↔ e ∈ l
theorem Mtch.nil : Mtch [] [] := ⟨by simp, srt_nil, fun _ => Iff.rfl⟩
theorem mem_rdel {x : PL} {k : Int} {e : Int × ByteArray} : e ∈ rdel x k ↔ e.1 ≠ k ∧ e ∈ x := by
  unfold rdel; rw [List.mem_filter]; simp [and_comm]
theorem nodup_rdel {x : PL} (k : Int) (h : (x.map (·.1)).Nodup) : ((rdel x k).map (·.1)).Nodup :=
  List.Nodup.sublist (List.Sublist.map _ List.filter_sublist) h
theorem key_uniq {x : PL} (h : (x.map (·.1)).Nodup) {a b : Int × ByteArray} (ha : a ∈ x) (hb : b ∈ x) (he : a.1 = b.1) : a = b := by
  induction x with
  | nil => cases ha
  | cons y x ih =>
    rw [List.map_cons, List.nodup_cons] at h
    obtain ⟨h1, h2⟩ := h
    have hno : ∀ c : Int × ByteArray, c ∈ x → c.1 ≠ y.1 := fun c hc hcy => h1 (by rw [← hcy]; exact List.mem_map_of_mem hc)
    rcases List.mem_cons.1 ha with ha1 | ha1 <;> rcases List.mem_cons.1 hb with hb1 | hb1
    · rw [ha1, hb1]
    · rw [ha1] at he; exact absurd he.symm (hno b hb1)
    · rw [hb1] at he; exact absurd he (hno a ha1)
    · exact ih h2 ha1 hb1
theorem Mtch.set_ {x l : PL} (h : Mtch x l) (k : Int) (v : ByteArray) : Mtch (rset x k v) (tset cmpI l k v) := by
  refine ⟨?_, srt_tset cmpI_ok h.srt k v, fun e => ?_⟩
  · unfold rset
    rw [List.map_append, List.nodup_append]
    refine ⟨nodup_rdel k h.keys, by simp, fun a ha b hb => ?_⟩
    obtain ⟨e, he, rfl⟩ := List.mem_map.1 ha
    simp at hb
    subst hb
    exact (mem_rdel.1 he).1
  · rw [mem_tset cmpI_ok h.srt, rset, List.mem_append, mem_rdel, h.mem]
    simp [or_comm]
theorem mem_tdel {l : PL} (hs : Srt cmpI l) {k : Int} {e : Int × ByteArray} : e ∈ tdel cmpI l k ↔ e.1 ≠ k ∧ e ∈ l := by
  unfold tdel
  cases hq : tget cmpI l k with
  | none =>
    have hno := (tget_none_iff cmpI_ok hs).1 hq
    show e ∈ l ↔ _
    exact ⟨fun h => ⟨fun he => hno e.2 (by rw [← he]; exact h), h⟩, fun h => h.2⟩
  | some e0 =>
    obtain ⟨hi, he⟩ := tget_lt hq
    obtain ⟨hm0, hk0⟩ := (tget_iff cmpI_ok hs).1 hq
    show e ∈ l.take (tix cmpI l k) ++ l.drop (tix cmpI l k + 1) ↔ _
    have hl : ∀ a, a ∈ l ↔ a ∈ l.take (tix cmpI l k) ∨ a = e0 ∨ a ∈ l.drop (tix cmpI l k + 1) := fun a => by
      conv => lhs; rw [← List.take_append_drop (tix cmpI l k) l, List.drop_eq_getElem_cons hi, he]
      rw [List.mem_append, List.mem_cons]
    have hs' : l.Pairwise fun a b => cmpI a.1 b.1 < 0 := hs
    rw [← List.take_append_drop (tix cmpI l k) l, List.drop_eq_getElem_cons hi, he, List.pairwise_append, List.pairwise_cons] at hs'
    obtain ⟨_, ⟨h2, _⟩, h3⟩ := hs'
    have hz : cmpI k k = 0 := (cmpI_ok.eq _ _).2 rfl
    rw [List.mem_append, hl]
    constructor
    · rintro (h | h)
      · refine ⟨fun hk => ?_, .inl h⟩
        have := h3 e h e0 (by simp)
        rw [hk, hk0] at this; omega
      · refine ⟨fun hk => ?_, .inr (.inr h)⟩
        have := h2 e h
        rw [hk, hk0] at this; omega
    · rintro ⟨hne, h | rfl | h⟩
      · exact .inl h
      · exact absurd hk0 hne
      · exact .inr h
theorem srt_tdel {l : PL} (hs : Srt cmpI l) (k : Int) : Srt cmpI (tdel cmpI l k) := by
  unfold tdel
  split
  · rename_i e0 hq
    obtain ⟨hi, he⟩ := tget_lt hq
    refine List.Pairwise.sublist ?_ hs
    conv => rhs; rw [← List.take_append_drop (tix cmpI l k) l]
    exact List.Sublist.append (List.Sublist.refl _) (by rw [List.drop_eq_getElem_cons hi]; exact List.sublist_cons_self _ _)
  · exact hs
theorem Mtch.del {x l : PL} (h : Mtch x l) (k : Int) : Mtch (rdel x k) (tdel cmpI l k) :=
  ⟨nodup_rdel k h.keys, srt_tdel h.srt k, fun e => by rw [mem_rdel, mem_tdel h.srt, h.mem]⟩
theorem rbest_min (l : PL) : ∀ i, i < l.length → ∀ t, t ≤ i → (l.getD (rbest l i) (0, ⟨#[]⟩)).1 ≤ (l.getD t (0, ⟨#[]⟩)).1 := by
  intro i
  induction i with
  | zero =>
    intro _ t ht
    have h0 : t = 0 := by omega
    rw [h0]
    exact Int.le_refl _
  | succ i ih =>
    intro hi t ht
    rw [rbest]
    have ih' := ih (by omega)
    split
    · rename_i hlt
      rcases Nat.eq_or_lt_of_le ht with rfl | h
      · exact Int.le_refl _
      · have := ih' t (by omega); omega
    · rename_i hge
      rcases Nat.eq_or_lt_of_le ht with rfl | h
      · omega
      · exact ih' t (by omega)
theorem rpick_min {l : PL} {e : Int × ByteArray} (he : e ∈ l) : (rpick l).1 ≤ e.1 := by
  obtain ⟨t, ht, rfl⟩ := List.mem_iff_getElem.1 he
  have := rbest_min l (l.length - 1) (by omega) t (by omega)
  rw [getD_lt' l _ t ht] at this
  exact this
theorem Mtch.sorted {x l : PL} (h : Mtch x l) : rsorted x = l := by
  induction hn : x.length using Nat.strongRecOn generalizing x l with
  | _ n ih =>
    by_cases hp : 0 < x.length
    · rw [rsorted_pos hp]
      have hm := rpick_mem hp
      cases l with
      | nil => exact absurd ((h.mem _).1 hm) (by simp)
      | cons a l =>
        have ha : a ∈ x := (h.mem a).2 (by simp)
        have hs := List.pairwise_cons.1 h.srt
        have h1 := rpick_min ha
        have h2 : a.1 ≤ (rpick x).1 := by
          rcases List.mem_cons.1 ((h.mem _).1 hm) with he | he
          · rw [he]; exact Int.le_refl _
          · have := (cmpI_lt _ _).1 (hs.1 _ he); omega
        have he : rpick x = a := key_uniq h.keys hm ha (by omega)
        have hrec : rsorted (rdel x (rpick x).1) = l := by
          refine ih _ ?_ ?_ rfl
          · have := rdel_lt hm; omega
          · refine ⟨nodup_rdel _ h.keys, hs.2, fun e => ?_⟩
            rw [mem_rdel, h.mem, List.mem_cons, he]
            constructor
            · rintro ⟨hne, rfl | h3⟩
              · exact absurd rfl hne
              · exact h3
            · intro h3
              refine ⟨fun hk => ?_, .inr h3⟩
              have := (cmpI_lt _ _).1 (hs.1 _ h3)
              omega
        rw [hrec, he]
    · rw [rsorted_nil hp]
      cases l with
      | nil => rfl
      | cons a l => exact absurd ((h.mem a).2 (by simp)) (by rw [List.eq_nil_of_length_eq_zero (by omega : x.length = 0)]; simp)
theorem length_rset (x : PL) (k : Int) (v : ByteArray) : (rset x k v).length ≤ x.length + 1 := by
  unfold rset; have := rdel_len x k; simp; omega
theorem rfind_none {x l : PL} (h : Mtch x l) {k : Int} : rfind x k < 0 ↔ tget cmpI l k = none := by
  rw [tget_none_iff cmpI_ok h.srt]
  unfold rfind
  cases hq : x.findIdx? fun e => e.1 == k with
  | none =>
    rw [List.findIdx?_eq_none_iff] at hq
    refine ⟨fun _ v hv => ?_, fun _ => by show (-1 : Int) < 0; omega⟩
    have := hq _ ((h.mem _).2 hv)
    simp at this
  | some i =>
    rw [List.findIdx?_eq_some_iff_getElem] at hq
    obtain ⟨hi, he, _⟩ := hq
    refine ⟨fun h0 => by simp at h0; omega, fun hno => ?_⟩
    have hm := (h.mem _).1 (List.getElem_mem hi)
    simp at he
    exact absurd (by rw [← he]; exact hm) (hno x[i].2)
theorem rfind_some {x l : PL} (h : Mtch x l) {k : Int} {e : Int × ByteArray} (hg : tget cmpI l k = some e) : ∃ i : Nat, rfind x k = i ∧ ∃ hi : i < x.length, x[i] = e := by
  obtain ⟨hm, rfl⟩ := (tget_iff cmpI_ok h.srt).1 hg
  unfold rfind
  cases hq : x.findIdx? fun a => a.1 == e.1 with
  | none =>
    rw [List.findIdx?_eq_none_iff] at hq
    have := hq _ ((h.mem _).2 hm)
    simp at this
  | some i =>
    rw [List.findIdx?_eq_some_iff_getElem] at hq
    obtain ⟨hi, he, _⟩ := hq
    exact ⟨i, rfl, hi, key_uniq h.keys (List.getElem_mem hi) ((h.mem _).2 hm) (by simpa using he)⟩
end Go.Proofs.Ytfoaalfkjknklaa
