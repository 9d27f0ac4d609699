/- Arguments that are slices of whole numbers, or structs with such fields, opened to the print's words. Conditions: none beyond each lemma's own. -/
import Derived.Test.YtpjgoiogpgggeaaOpen
import Derived.Test.YtpjgoiogpgggeaaWMore
namespace Go.Proofs.Ytpjgoiogpgggeaa
open Go.RowKit Go.Proofs.YtpjgoiogpgggeaaW.PrintWords
open Go.ChangeShapes Go.WideShapes Go.Deep
section
variable {H : Type} {enc : TypeId × Value → H} {P : Program} {w : World} {base : Nat} {spare : Nat → Bool} {held : Bool}
theorem ints_field {t e : TypeId} {k : IntKind} {fuel : Nat} {v : Value} {x : DataW H × List MemPlace} (ht : P.underlying t = some (.slice e)) (he : P.underlying e = some (.int k)) (hc : P.cellsOf e = 1) (hsp : ∀ b, spare b = true)
    (h : DataW.trod enc P w base spare held fuel t [v] = some x) : ∃ A c, ∃ xs : List Int, v = .slice A xs.length c ∧ xs.length ≤ c ∧ (Kd.int k).C w A xs.length xs ∧ ∀ n ∈ xs, (Lit.int k n).wf = true := by
  rcases open_ints ht he hc h with ⟨hcs, _⟩ | ⟨a, l, c, zs, hcs, _, hl, hm, hz, _, hcell, hwz⟩
  · injection hcs with hcs
    obtain ⟨l, e, hr, _, hw, hc⟩ := ReadsInt.ofRowC (k := k) (w := w) (a := none) (len := 0) (cap := 0) (zs := []) (.inl ⟨rfl, rfl, rfl, rfl⟩)
    exact ⟨none, 0, l, by rw [hcs, ← e], hc, Kd.C_of_reads (d := (0 : Int)) (h1 := fun _ => rfl) hr, hw⟩
  · injection hcs with hcs
    obtain ⟨l, e, hr, _, hw, hc⟩ := ReadsInt.ofRowC (.inr ⟨a, rfl, hl, hm, by rw [hz, if_pos (hsp _)], hcell, hwz⟩)
    exact ⟨some a, c, l, by rw [hcs, e], hc, Kd.C_of_reads (d := (0 : Int)) (h1 := fun _ => rfl) hr, hw⟩
/-- A row of structs, told element by element. -/
theorem C_of_each {α : Type} (d : Kd α) (hz : 0 < d.sz) {A : Option Addr} {n : Nat} (hn : n ≤ 9223372036854775807) (hA : 0 < n → ∃ ad, A = some ad)
    (h : ∀ i, i < n → ∃ x c, c.length = d.sz ∧ d.K w x c ∧ ∀ ad, A = some ad → ∀ j u, c[j]? = some u → w.cell? (ad.add (i * d.sz + j)) = some u) : ∃ xs : List α, xs.length = n ∧ d.C w A xs.length xs := by
  obtain ⟨xs, hl, hq⟩ := exists_list (α := α) n fun i hi => by
    obtain ⟨x, hx⟩ := h i hi
    exact ⟨x, hx⟩
  refine ⟨xs, hl, rfl, by omega, fun hp => ?_⟩
  obtain ⟨ad, had⟩ := hA (by omega)
  refine ⟨ad, had, fun j p hj => ?_⟩
  obtain ⟨hjl, hje⟩ := List.getElem?_eq_some_iff.1 hj
  obtain ⟨c, h1, h2, h3⟩ := hq j hjl
  rw [hje] at h2
  exact ⟨c, h1, h2, h3 ad had⟩
end
end Go.Proofs.Ytpjgoiogpgggeaa
