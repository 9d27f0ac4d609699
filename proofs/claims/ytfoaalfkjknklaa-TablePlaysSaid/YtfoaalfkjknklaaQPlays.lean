/- TablePlays: for every list of calls the law returns true and leaves its argument as it was. Conditions: none. -/
import Derived.Test.YtfoaalfkjknklaaLPlays
import Derived.Test.YtfoaalfkjknklaaOpen
import Derived.Test.YtfoaalfkjknklaaRows
import Derived.WalkKit
import Derived.ProofKit
import Derived.OpenShut
import Derived.ShutString
import Derived.ChangeOld
import Derived.Below
namespace Go.Proofs.Ytfoaalfkjknklaa.tablePlays
open Go.ChangeShapes Go.WideShapes Go.ChangeAt Go.RowKit
open Go.ChangeMaps (open_string shut_string)
set_option linter.unusedVariables false
theorem own : ownKnob Try.prog.godebug = none := by kernel_rfl
theorem laidOut : laidOutB Try.prog = true := by kernel_rfl
set_option maxRecDepth 100000 in
theorem lifted (os : Os) (started : os.Started) (H : Type) (enc : TypeId × Value → H) :
    ReturnsInHanded {} Try.checked os 5 .any (Rows.tablePlaysSpec.pre6 enc Try.prog Try.f5 Rows.tablePlaysRow.domain false) (Rows.tablePlaysSpec.post enc Try.prog Try.f5 false true false false) := by
  refine returnsInHanded_of_change (C := Try.checked) own started (by kernel_rfl) Try.func5
    (ChangeSpec.witness6 (enc := enc) (C := Try.checked) false ⟨#[], #[.slice none 0 0], []⟩ 8 (by kernel_rfl) (by kernel_rfl) (by kernel_rfl) (by kernel_rfl)) ?_
  intro W base args ds gs before hval0 hW hcnd _
  have hval : ∀ (j : Nat) t v, Try.f5.params[j]? = some t → args[j]? = some v → Value.okWide Try.prog W .any base t v := hval0
  have hW' := hW
  obtain ⟨p, q, hA00, hV, rfl, hfz, hnd⟩ := hW
  have hA : DataW.TrodAll enc Try.prog W 0 (fun _ => true) true Try.f5.params.toList args.toList ds p := hA00
  rw [Try.params5] at hA hval
  obtain ⟨v0, vs0, d0, ds0, p0, q0, hargs, rfl, rfl, h0, r0⟩ := trodAll_cons hA
  obtain ⟨rfl, rfl, rfl⟩ := trodAll_nil r0
  obtain rfl : args = #[v0] := by cases args; simp_all
  obtain ⟨rfl, rfl⟩ := trodVars_none hV
  have k0 := h0
  have lt0 : ∀ x ∈ p0, x.block < W.heap.size := by obtain ⟨m, hm⟩ := k0; exact DataW.trod_lt m _ _ _ hm
  obtain ⟨a0, len0, cap0, rfl⟩ := okWide_slice Try.underlying30 (hval 0 30 v0 rfl rfl)
  obtain ⟨l0, hl0, hA0, hm0⟩ : ∃ ops : List TOp, ops.length = len0 ∧ IsOps W a0 ops ∧ len0 ≤ 9223372036854775807 := by
    obtain ⟨fuel, hf⟩ := h0
    rcases open_slice_fields Try.underlying30 Try.underlying38 (by kernel_rfl) (by kernel_rfl) hf with ⟨hcs, _⟩ | ⟨x, l, c, m, hcs, hl, hm, hmm, hi⟩
    · simp [Value.cells] at hcs
      obtain ⟨rfl, rfl, rfl⟩ := hcs
      exact ⟨[], rfl, fun i hi => by simp at hi, by omega⟩
    · simp [Value.cells] at hcs
      obtain ⟨rfl, rfl, rfl⟩ := hcs
      have hmc : m = cap0 := by rw [hmm]; rfl
      unfold maxLen at hm
      have hel : ∀ i, i < len0 → ∃ q : TOp, ∃ b o, some x = some ⟨b, o, none⟩ ∧ b < W.heap.size ∧ W.cell? ⟨b, o + i * 3, none⟩ = some (.int .i64 q.1) ∧ W.cell? ⟨b, o + i * 3 + 1, none⟩ = some (.int .i64 q.2) ∧ W.cell? ⟨b, o + i * 3 + 2, none⟩ = some (.string q.3) := by
        intro i hi'
        obtain ⟨ys0, n0', _, hf0⟩ := hi 0 (by omega)
        obtain ⟨u0', _, c0', _, _⟩ := hf0 0 _ rfl
        obtain ⟨b, o, rfl⟩ := addr_plain (a := x) (by simpa [Addr.add] using c0')
        obtain ⟨ys, n', _, hf'⟩ := hi i (by omega)
        obtain ⟨u0, y0, c0, _, t0⟩ := hf' 0 _ rfl
        obtain ⟨n0, e0, _, _⟩ := DataW.trod_int Try.underlying3 t0
        injection e0 with e0
        subst e0
        obtain ⟨u1, y1, c1, _, t1⟩ := hf' 1 _ rfl
        obtain ⟨n1, e1, _, _⟩ := DataW.trod_int Try.underlying3 t1
        injection e1 with e1
        subst e1
        obtain ⟨u2, y2, c2, _, t2⟩ := hf' 2 _ rfl
        obtain ⟨n2, e2, _, _⟩ := DataW.trod_string Try.underlying9 t2
        injection e2 with e2
        subst e2
        simp only [Addr.add_lit] at c0 c1 c2 c0'
        exact ⟨⟨n0, n1, n2⟩, b, o, rfl, World.block_lt_of_cell? W _ c0', c0, c1, c2⟩
      obtain ⟨l, hl', hq⟩ := exists_list len0 hel
      exact ⟨l, hl', fun i hi => hq i hi, by omega⟩
  clear hA00 hval0
  subst hl0
  refine (plays_walk a0 cap0 l0 W hA0 hm0).mono fun e W' ⟨he, bel⟩ => ?_
  subst he
  exact ⟨_, rfl, _, _, _, [], _, [], hW', trodAll_mk1 (shut_bool Try.underlying4 _), (trodAll_cons_mk (Below.trod laidOut (by kernel_rfl) (of_decide_eq_true (by kernel_rfl)) k0 bel lt0) trodAll_mk0), rfl, bel.frame _, fun h => by cases h⟩
theorem over : Rows.tablePlaysRow.holds Try.pinned (OpenSpec.ofChange Rows.tablePlaysSpec) :=
  OpenClaim.holds_of_wide 5 Try.f5 rfl rfl rfl rfl rfl rfl rfl ⟨rfl, rfl, rfl, rfl, rfl⟩ rfl rfl rfl rfl rfl (by kernel_rfl) Try.func5 (by kernel_rfl)
    (of_decide_eq_true (by kernel_rfl)) (by unfold Func.isWrapper; first | (rw [if_pos (by decide +kernel)]; kernel_rfl) | (rw [if_neg (by decide +kernel)]; exact ⟨rfl, rfl⟩))
    (fun os started H enc _ => lifted os started H enc)
theorem proved : Rows.TablePlaysSaid := over
end Go.Proofs.Ytfoaalfkjknklaa.tablePlays
