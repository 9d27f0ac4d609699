/- The plain law of TableCounts: what a counted table holds. Plain Lean. -/
import Derived.Test.YtfoaalfkjknklaaTabP
namespace Go.Proofs.Ytfoaalfkjknklaa
open Go.RowKit
def tsum {κ : Type} (l : List (κ × Int)) : Int := (l.map (·.2)).sum
theorem tsum_nil {κ : Type} : tsum ([] : List (κ × Int)) = 0 := rfl
theorem tsum_cons {κ : Type} (e : κ × Int) (l : List (κ × Int)) : tsum (e :: l) = e.2 + tsum l := by simp [tsum]
theorem tsum_append {κ : Type} (a b : List (κ × Int)) : tsum (a ++ b) = tsum a + tsum b := by simp [tsum]
theorem tsum_tset {κ : Type} {cmp : κ → κ → Int} {l : List (κ × Int)} (k : κ) (x : Int) : tsum (tset cmp l k x) = tsum l - (tval cmp l k).getD 0 + x := by
  unfold tset tval
  cases hq : tget cmp l k with
  | some e =>
    obtain ⟨hi, he⟩ := tget_lt hq
    have h1 : l.set (tix cmp l k) (e.1, x) = l.take (tix cmp l k) ++ (e.1, x) :: l.drop (tix cmp l k + 1) := List.set_eq_take_append_cons_drop ▸ (by simp [hi])
    have h2 : l = l.take (tix cmp l k) ++ e :: l.drop (tix cmp l k + 1) := by
      conv => lhs; rw [← List.take_append_drop (tix cmp l k) l, List.drop_eq_getElem_cons hi, he]
    show tsum (l.set (tix cmp l k) (e.1, x)) = tsum l - e.2 + x
    rw [h1]
    conv => rhs; rw [h2]
    simp only [tsum_append, tsum_cons]
    omega
  | none =>
    show tsum (l.take (tix cmp l k) ++ (k, x) :: l.drop (tix cmp l k)) = tsum l - 0 + x
    have h2 : tsum l = tsum (l.take (tix cmp l k)) + tsum (l.drop (tix cmp l k)) := by rw [← tsum_append, List.take_append_drop]
    simp only [tsum_append, tsum_cons]
    omega
section
variable {κ : Type} [DecidableEq κ] {cmp : κ → κ → Int} (hc : CmpOk cmp)
include hc
theorem tval_tcount (ks : List κ) : ks.length ≤ 1000000 → ∀ k, tval cmp (tcount cmp ks) k = if k ∈ ks then some (ks.count k : Int) else none := by
  rw [← List.reverse_reverse ks]
  induction ks.reverse with
  | nil => intro _ k; simp [tcount, tval, tget, tix]
  | cons x l ih =>
    intro hl k
    rw [List.reverse_cons] at hl ⊢
    have ih' := ih (by simp at hl ⊢; omega)
    rw [tcount_snoc, tinc, tval_tset hc (srt_tcount hc _)]
    have hle : l.reverse.count x ≤ l.reverse.length := List.count_le_length
    have hw : ∀ n : Nat, n ≤ l.reverse.length → wrap64 ((n : Int) + 1) = (n : Int) + 1 := fun n hn => by
      unfold wrap64; simp at hl hn; omega
    rw [ih' x]
    by_cases h : k = x
    · subst h
      rw [if_pos rfl, if_pos (show k ∈ l.reverse ++ [k] from by simp), List.count_append]
      by_cases hm : k ∈ l.reverse
      · rw [if_pos hm]
        simp only [Option.getD_some]
        rw [hw _ hle]
        simp
      · rw [if_neg hm, List.count_eq_zero_of_not_mem hm]
        have := hw 0 (by omega)
        simp at this ⊢
        omega
    · rw [if_neg h, ih' k, List.count_append]
      have hx : ¬ x = k := fun e => h e.symm
      simp [h, hx, List.count_cons]
theorem tsum_tcount (ks : List κ) : ks.length ≤ 1000000 → tsum (tcount cmp ks) = ks.length := by
  rw [← List.reverse_reverse ks]
  induction ks.reverse with
  | nil => intro _; rfl
  | cons x l ih =>
    intro hl
    rw [List.reverse_cons] at hl ⊢
    have ih' := ih (by simp at hl ⊢; omega)
    have hv := tval_tcount hc l.reverse (by simp at hl ⊢; omega) x
    rw [tcount_snoc, tinc, tsum_tset, ih', hv]
    have hle : l.reverse.count x ≤ l.reverse.length := List.count_le_length
    have hw : ∀ n : Nat, n ≤ l.reverse.length → wrap64 ((n : Int) + 1) = (n : Int) + 1 := fun n hn => by
      unfold wrap64; simp at hl hn; omega
    by_cases hm : x ∈ l.reverse
    · rw [if_pos hm]
      simp only [Option.getD_some]
      rw [hw _ hle]
      simp
      omega
    · rw [if_neg hm]
      have := hw 0 (by omega)
      simp at this ⊢
      omega
theorem tcount_entry (ks : List κ) (hl : ks.length ≤ 1000000) {e : κ × Int} (he : e ∈ tcount cmp ks) : e.1 ∈ ks ∧ e.2 = (ks.count e.1 : Int) ∧ tget cmp (tcount cmp ks) e.1 = some e := by
  have h1 := (tval_iff hc (srt_tcount hc ks)).2 he
  rw [tval_tcount hc ks hl] at h1
  split at h1
  · rename_i hm
    injection h1 with h1
    exact ⟨hm, h1.symm, (tget_iff hc (srt_tcount hc ks)).2 ⟨he, rfl⟩⟩
  · cases h1
theorem tget_tcount_mem (ks : List κ) (hl : ks.length ≤ 1000000) {k : κ} (hm : k ∈ ks) : tget cmp (tcount cmp ks) k = some (k, (ks.count k : Int)) := by
  have h := tval_tcount hc ks hl k
  rw [if_pos hm] at h
  exact (tget_iff hc (srt_tcount hc ks)).2 ⟨(tval_iff hc (srt_tcount hc ks)).1 h, rfl⟩
theorem tsum_take (ks : List κ) (hl : ks.length ≤ 1000000) (j : Nat) : 0 ≤ tsum ((tcount cmp ks).take j) ∧ tsum ((tcount cmp ks).take j) ≤ ks.length := by
  have hp : ∀ l : List (κ × Int), (∀ e ∈ l, e ∈ tcount cmp ks) → 0 ≤ tsum l := by
    intro l
    induction l with
    | nil => intro _; exact Int.le_refl _
    | cons e l ih =>
      intro h
      rw [tsum_cons]
      have := (tcount_entry hc ks hl (h e (by simp))).2.1
      have := ih fun e he => h e (List.mem_cons_of_mem _ he)
      omega
  have h1 := tsum_tcount hc ks hl
  have h2 : tsum (tcount cmp ks) = tsum ((tcount cmp ks).take j) + tsum ((tcount cmp ks).drop j) := by rw [← tsum_append, List.take_append_drop]
  have h3 := hp ((tcount cmp ks).take j) fun e he => List.mem_of_mem_take he
  have h4 := hp ((tcount cmp ks).drop j) fun e he => List.mem_of_mem_drop he
  omega
end
end Go.Proofs.Ytfoaalfkjknklaa
