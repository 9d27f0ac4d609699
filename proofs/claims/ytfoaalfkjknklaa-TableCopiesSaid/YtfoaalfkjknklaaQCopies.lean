/- TableCopies: for every two lists of calls and every place to stop the law returns true and leaves its arguments as they were. Conditions: none. -/
import Derived.Test.YtfoaalfkjknklaaLCopies
import Derived.Test.YtfoaalfkjknklaaOpen
import Derived.Test.YtfoaalfkjknklaaRows
import Derived.WalkKit
import Derived.ProofKit
import Derived.OpenShut
import Derived.ShutString
import Derived.ChangeOld
import Derived.Below
namespace Go.Proofs.Ytfoaalfkjknklaa.tableCopies
open Go.ChangeShapes Go.WideShapes Go.ChangeAt Go.RowKit
open Go.ChangeMaps (open_string shut_string)
set_option linter.unusedVariables false
theorem own : ownKnob Try.prog.godebug = none := by kernel_rfl
theorem laidOut : laidOutB Try.prog = true := by kernel_rfl
set_option maxRecDepth 100000 in
theorem lifted (os : Os) (started : os.Started) (H : Type) (enc : TypeId × Value → H) :
    ReturnsInHanded {} Try.checked os 6 .any (Rows.tableCopiesSpec.pre6 enc Try.prog Try.f6 Rows.tableCopiesRow.domain false) (Rows.tableCopiesSpec.post enc Try.prog Try.f6 false true false false) := by
  refine returnsInHanded_of_change (C := Try.checked) own started (by kernel_rfl) Try.func6
    (ChangeSpec.witness6 (enc := enc) (C := Try.checked) false ⟨#[], #[.slice none 0 0, .slice none 0 0, .int .i64 0], []⟩ 8 (by kernel_rfl) (by kernel_rfl) (by kernel_rfl) (by kernel_rfl)) ?_
  intro W base args ds gs before hval0 hW hcnd _
  have hval : ∀ (j : Nat) t v, Try.f6.params[j]? = some t → args[j]? = some v → Value.okWide Try.prog W .any base t v := hval0
  have hW' := hW
  obtain ⟨p, q, hA00, hV, rfl, hfz, hnd⟩ := hW
  have hA : DataW.TrodAll enc Try.prog W 0 (fun _ => true) true Try.f6.params.toList args.toList ds p := hA00
  rw [Try.params6] at hA hval
  obtain ⟨v0, vs0, d0, ds0, p0, q0, hargs, rfl, rfl, h0, r0⟩ := trodAll_cons hA
  obtain ⟨v1, vs1, d1, ds1, p1, q1, rfl, rfl, rfl, h1, r1⟩ := trodAll_cons r0
  obtain ⟨v2, vs2, d2, ds2, p2, q2, rfl, rfl, rfl, h2, r2⟩ := trodAll_cons r1
  obtain ⟨rfl, rfl, rfl⟩ := trodAll_nil r2
  obtain rfl : args = #[v0, v1, v2] := by cases args; simp_all
  obtain ⟨rfl, rfl⟩ := trodVars_none hV
  have k0 := h0
  have lt0 : ∀ x ∈ p0, x.block < W.heap.size := by obtain ⟨m, hm⟩ := k0; exact DataW.trod_lt m _ _ _ hm
  obtain ⟨a0, len0, cap0, rfl⟩ := okWide_slice Try.underlying30 (hval 0 30 v0 rfl rfl)
  obtain ⟨l0, hl0, hA0, hm0⟩ : ∃ ops : List TOp, ops.length = len0 ∧ IsOps W a0 ops ∧ len0 ≤ 9223372036854775807 := by
    obtain ⟨fuel, hf⟩ := h0
    rcases open_slice_fields Try.underlying30 Try.underlying38 (by kernel_rfl) (by kernel_rfl) hf with ⟨hcs, _⟩ | ⟨x, l, c, m, hcs, hl, hm, hmm, hi⟩
    · simp [Value.cells] at hcs
      obtain ⟨rfl, rfl, rfl⟩ := hcs
      exact ⟨[], rfl, fun i hi => by simp at hi, by omega⟩
    · simp [Value.cells] at hcs
      obtain ⟨rfl, rfl, rfl⟩ := hcs
      have hmc : m = cap0 := by rw [hmm]; rfl
      unfold maxLen at hm
      have hel : ∀ i, i < len0 → ∃ q : TOp, ∃ b o, some x = some ⟨b, o, none⟩ ∧ b < W.heap.size ∧ W.cell? ⟨b, o + i * 3, none⟩ = some (.int .i64 q.1) ∧ W.cell? ⟨b, o + i * 3 + 1, none⟩ = some (.int .i64 q.2) ∧ W.cell? ⟨b, o + i * 3 + 2, none⟩ = some (.string q.3) := by
        intro i hi'
        obtain ⟨ys0, n0', _, hf0⟩ := hi 0 (by omega)
        obtain ⟨u0', _, c0', _, _⟩ := hf0 0 _ rfl
        obtain ⟨b, o, rfl⟩ := addr_plain (a := x) (by simpa [Addr.add] using c0')
        obtain ⟨ys, n', _, hf'⟩ := hi i (by omega)
        obtain ⟨u0, y0, c0, _, t0⟩ := hf' 0 _ rfl
        obtain ⟨n0, e0, _, _⟩ := DataW.trod_int Try.underlying3 t0
        injection e0 with e0
        subst e0
        obtain ⟨u1, y1, c1, _, t1⟩ := hf' 1 _ rfl
        obtain ⟨n1, e1, _, _⟩ := DataW.trod_int Try.underlying3 t1
        injection e1 with e1
        subst e1
        obtain ⟨u2, y2, c2, _, t2⟩ := hf' 2 _ rfl
        obtain ⟨n2, e2, _, _⟩ := DataW.trod_string Try.underlying9 t2
        injection e2 with e2
        subst e2
        simp only [Addr.add_lit] at c0 c1 c2 c0'
        exact ⟨⟨n0, n1, n2⟩, b, o, rfl, World.block_lt_of_cell? W _ c0', c0, c1, c2⟩
      obtain ⟨l, hl', hq⟩ := exists_list len0 hel
      exact ⟨l, hl', fun i hi => hq i hi, by omega⟩
  have k1 := h1
  have lt1 : ∀ x ∈ p1, x.block < W.heap.size := by obtain ⟨m, hm⟩ := k1; exact DataW.trod_lt m _ _ _ hm
  obtain ⟨a1, len1, cap1, rfl⟩ := okWide_slice Try.underlying30 (hval 1 30 v1 rfl rfl)
  obtain ⟨l1, hl1, hA1, hm1⟩ : ∃ ops : List TOp, ops.length = len1 ∧ IsOps W a1 ops ∧ len1 ≤ 9223372036854775807 := by
    obtain ⟨fuel, hf⟩ := h1
    rcases open_slice_fields Try.underlying30 Try.underlying38 (by kernel_rfl) (by kernel_rfl) hf with ⟨hcs, _⟩ | ⟨x, l, c, m, hcs, hl, hm, hmm, hi⟩
    · simp [Value.cells] at hcs
      obtain ⟨rfl, rfl, rfl⟩ := hcs
      exact ⟨[], rfl, fun i hi => by simp at hi, by omega⟩
    · simp [Value.cells] at hcs
      obtain ⟨rfl, rfl, rfl⟩ := hcs
      have hmc : m = cap1 := by rw [hmm]; rfl
      unfold maxLen at hm
      have hel : ∀ i, i < len1 → ∃ q : TOp, ∃ b o, some x = some ⟨b, o, none⟩ ∧ b < W.heap.size ∧ W.cell? ⟨b, o + i * 3, none⟩ = some (.int .i64 q.1) ∧ W.cell? ⟨b, o + i * 3 + 1, none⟩ = some (.int .i64 q.2) ∧ W.cell? ⟨b, o + i * 3 + 2, none⟩ = some (.string q.3) := by
        intro i hi'
        obtain ⟨ys0, n0', _, hf0⟩ := hi 0 (by omega)
        obtain ⟨u0', _, c0', _, _⟩ := hf0 0 _ rfl
        obtain ⟨b, o, rfl⟩ := addr_plain (a := x) (by simpa [Addr.add] using c0')
        obtain ⟨ys, n', _, hf'⟩ := hi i (by omega)
        obtain ⟨u0, y0, c0, _, t0⟩ := hf' 0 _ rfl
        obtain ⟨n0, e0, _, _⟩ := DataW.trod_int Try.underlying3 t0
        injection e0 with e0
        subst e0
        obtain ⟨u1, y1, c1, _, t1⟩ := hf' 1 _ rfl
        obtain ⟨n1, e1, _, _⟩ := DataW.trod_int Try.underlying3 t1
        injection e1 with e1
        subst e1
        obtain ⟨u2, y2, c2, _, t2⟩ := hf' 2 _ rfl
        obtain ⟨n2, e2, _, _⟩ := DataW.trod_string Try.underlying9 t2
        injection e2 with e2
        subst e2
        simp only [Addr.add_lit] at c0 c1 c2 c0'
        exact ⟨⟨n0, n1, n2⟩, b, o, rfl, World.block_lt_of_cell? W _ c0', c0, c1, c2⟩
      obtain ⟨l, hl', hq⟩ := exists_list len1 hel
      exact ⟨l, hl', fun i hi => hq i hi, by omega⟩
  have k2 := h2
  have lt2 : ∀ x ∈ p2, x.block < W.heap.size := by obtain ⟨m, hm⟩ := k2; exact DataW.trod_lt m _ _ _ hm
  obtain ⟨x2, rfl, rfl, rfl, wf2⟩ := open_int Try.underlying3 (hval 2 3 v2 rfl rfl) h2
  clear hA00 hval0
  subst hl0
  subst hl1
  refine (copies_walk a0 a1 cap0 cap1 l0 l1 x2 W hA0 hA1 hm0 hm1).mono fun e W' ⟨he, bel⟩ => ?_
  subst he
  exact ⟨_, rfl, _, _, _, [], _, [], hW', trodAll_mk1 (shut_bool Try.underlying4 _), (trodAll_cons_mk (Below.trod laidOut (by kernel_rfl) (of_decide_eq_true (by kernel_rfl)) k0 bel lt0) (trodAll_cons_mk (Below.trod laidOut (by kernel_rfl) (of_decide_eq_true (by kernel_rfl)) k1 bel lt1) (trodAll_cons_mk (Below.trod laidOut (by kernel_rfl) (of_decide_eq_true (by kernel_rfl)) k2 bel lt2) trodAll_mk0))), rfl, bel.frame _, fun h => by cases h⟩
theorem over : Rows.tableCopiesRow.holds Try.pinned (OpenSpec.ofChange Rows.tableCopiesSpec) :=
  OpenClaim.holds_of_wide 6 Try.f6 rfl rfl rfl rfl rfl rfl rfl ⟨rfl, rfl, rfl, rfl, rfl⟩ rfl rfl rfl rfl rfl (by kernel_rfl) Try.func6 (by kernel_rfl)
    (of_decide_eq_true (by kernel_rfl)) (by unfold Func.isWrapper; first | (rw [if_pos (by decide +kernel)]; kernel_rfl) | (rw [if_neg (by decide +kernel)]; exact ⟨rfl, rfl⟩))
    (fun os started H enc _ => lifted os started H enc)
theorem proved : Rows.TableCopiesSaid := over
end Go.Proofs.Ytfoaalfkjknklaa.tableCopies
