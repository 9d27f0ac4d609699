/- ArenaKeeps: for every capacity, every list of calls and all cells the law returns true. Conditions: none. -/
import Derived.Test.YtpjgoiogpgggeaaLKeeps
import Derived.Test.YtpjgoiogpgggeaaOpen
import Derived.Test.YtpjgoiogpgggeaaOpenK
import Derived.Test.YtpjgoiogpgggeaaRows
import Derived.WalkKit
import Derived.ProofKit
import Derived.OpenShut
import Derived.ShutString
import Derived.ChangeOld
import Derived.Below
namespace Go.Proofs.Ytpjgoiogpgggeaa.arenaKeeps
open Go.ChangeShapes Go.WideShapes Go.ChangeAt Go.RowKit
open Go.ChangeMaps (open_string shut_string)
open Go.Proofs.YtpjgoiogpgggeaaW.PrintWords
set_option linter.unusedVariables false
theorem own : ownKnob Try.prog.godebug = none := by kernel_rfl
theorem laidOut : laidOutB Try.prog = true := by kernel_rfl
set_option maxRecDepth 100000 in
theorem lifted (os : Os) (started : os.Started) (H : Type) (enc : TypeId × Value → H) :
    ReturnsInHanded {} Try.checked os 3 .any (Rows.arenaKeepsSpec.pre6 enc Try.prog Try.f3 Rows.arenaKeepsRow.domain false) (Rows.arenaKeepsSpec.post enc Try.prog Try.f3 false true false false) := by
  refine returnsInHanded_of_change (C := Try.checked) own started (by kernel_rfl) Try.func3
    (ChangeSpec.witness6 (enc := enc) (C := Try.checked) false ⟨#[], #[.int .i64 0, .slice none 0 0, .slice none 0 0], []⟩ 8 (by kernel_rfl) (by kernel_rfl) (by kernel_rfl) (by kernel_rfl)) ?_
  intro W base args ds gs before hval0 hW hcnd _
  have hval : ∀ (j : Nat) t v, Try.f3.params[j]? = some t → args[j]? = some v → Value.okWide Try.prog W .any base t v := hval0
  have hW' := hW
  obtain ⟨p, q, hA00, hV, rfl, hfz, hnd⟩ := hW
  have hA : DataW.TrodAll enc Try.prog W 0 (fun _ => true) true Try.f3.params.toList args.toList ds p := hA00
  rw [Try.params3] at hA hval
  obtain ⟨v0, vs0, d0, ds0, p0, q0, hargs, rfl, rfl, h0, r0⟩ := trodAll_cons hA
  obtain ⟨v1, vs1, d1, ds1, p1, q1, rfl, rfl, rfl, h1, r1⟩ := trodAll_cons r0
  obtain ⟨v2, vs2, d2, ds2, p2, q2, rfl, rfl, rfl, h2, r2⟩ := trodAll_cons r1
  obtain ⟨rfl, rfl, rfl⟩ := trodAll_nil r2
  obtain rfl : args = #[v0, v1, v2] := by cases args; simp_all
  obtain ⟨rfl, rfl⟩ := trodVars_none hV
  have k0 := h0
  have lt0 : ∀ x ∈ p0, x.block < W.heap.size := by obtain ⟨m, hm⟩ := k0; exact DataW.trod_lt m _ _ _ hm
  obtain ⟨x0, rfl, rfl, rfl, wf0⟩ := open_int Try.underlying3 (hval 0 3 v0 rfl rfl) h0
  have k1 := h1
  have lt1 : ∀ x ∈ p1, x.block < W.heap.size := by obtain ⟨m, hm⟩ := k1; exact DataW.trod_lt m _ _ _ hm
  obtain ⟨a1, len1, cap1, rfl⟩ := okWide_slice Try.underlying22 (hval 1 22 v1 rfl rfl)
  obtain ⟨l1, hl1, hc1, hC1⟩ : ∃ l : List PRef.S31, l.length = len1 ∧ l.length ≤ cap1 ∧ Kd.C PRef.k31 W a1 l.length l := by
    obtain ⟨fuel, hf⟩ := h1
    rcases open_slice_fields Try.underlying22 Try.underlying31 (by kernel_rfl) (by kernel_rfl) hf with ⟨hcs, _⟩ | ⟨x, l, c, m, hcs, hl, hm, hmm, hi⟩
    · simp [Value.cells] at hcs
      obtain ⟨rfl, rfl, rfl⟩ := hcs
      obtain ⟨xs, h1, h2⟩ := C_of_each (w := W) PRef.k31 (A := none) (n := 0) (by decide) (by omega) (fun h => absurd h (Nat.lt_irrefl 0)) (fun i hi => absurd hi (Nat.not_lt_zero i))
      exact ⟨xs, h1, by omega, h2⟩
    · simp [Value.cells] at hcs
      obtain ⟨rfl, rfl, rfl⟩ := hcs
      have hmc : m = cap1 := by rw [hmm]; rfl
      unfold maxLen at hm
      obtain ⟨xs, h1, h2⟩ := C_of_each (w := W) PRef.k31 (A := some x) (n := len1) (by decide) (by omega) (fun _ => ⟨x, rfl⟩) (fun i hi' => by
        obtain ⟨ys, n', _, hf'⟩ := hi i (by omega)
        obtain ⟨u0, y0, c0, _, t0⟩ := hf' 0 _ rfl
        obtain ⟨n0, e0, _, _⟩ := DataW.trod_int Try.underlying3 t0
        injection e0 with e0
        subst e0
        obtain ⟨u1, y1, c1, _, t1⟩ := hf' 1 _ rfl
        obtain ⟨n1, e1, _, _⟩ := DataW.trod_int Try.underlying3 t1
        injection e1 with e1
        subst e1
        obtain ⟨u2, y2, c2, _, t2⟩ := hf' 2 _ rfl
        obtain ⟨B2, d2, n2, e2, q2, r2, _⟩ := ints_field Try.underlying23 Try.underlying59 (by kernel_rfl) (fun _ => rfl) t2
        subst e2
        refine ⟨⟨n0, n1, n2⟩, [.int .i64 n0, .int .i64 n1, .slice B2 n2.length d2], rfl, PRef.k31_mk W _ q2 r2, fun ad had j u hu => ?_⟩
        injection had with had
        subst had
        have hj : j < 3 := (List.getElem?_eq_some_iff.1 hu).1
        match j, hj, hu with
        | 0, _, hu => injection hu with hu; rw [← hu]; exact c0
        | 1, _, hu => injection hu with hu; rw [← hu]; exact c1
        | 2, _, hu => injection hu with hu; rw [← hu]; exact c2)
      exact ⟨xs, h1, by omega, h2⟩
  have k2 := h2
  have lt2 : ∀ x ∈ p2, x.block < W.heap.size := by obtain ⟨m, hm⟩ := k2; exact DataW.trod_lt m _ _ _ hm
  obtain ⟨a2, len2, cap2, rfl⟩ := okWide_slice Try.underlying23 (hval 2 23 v2 rfl rfl)
  obtain ⟨l2, hl2, hc2, hC2, wf2⟩ : ∃ l : List Int, l.length = len2 ∧ l.length ≤ cap2 ∧ (Kd.int .i64).C W a2 l.length l ∧ ∀ n ∈ l, (Lit.int .i64 n).wf = true := by
    obtain ⟨fuel, hf⟩ := h2
    obtain ⟨B, c, xs, he, h1, h2, h3⟩ := ints_field Try.underlying23 Try.underlying59 (by kernel_rfl) (fun _ => rfl) hf
    injection he with e1 e2 e3
    subst e1
    subst e3
    exact ⟨xs, e2.symm, h1, h2, h3⟩
  clear hA00 hval0
  subst hl1
  subst hl2
  refine (keeps_walk a1 a2 cap1 cap2 x0 l1 l2 W hC1 hc1 hC2 hc2).mono fun e W' ⟨he, bel⟩ => ?_
  subst he
  exact ⟨_, rfl, _, _, _, [], _, [], hW', trodAll_mk1 (shut_bool Try.underlying4 _), (trodAll_cons_mk (Below.trod laidOut (by kernel_rfl) (of_decide_eq_true (by kernel_rfl)) k0 bel lt0) (trodAll_cons_mk (Below.trod laidOut (by kernel_rfl) (of_decide_eq_true (by kernel_rfl)) k1 bel lt1) (trodAll_cons_mk (Below.trod laidOut (by kernel_rfl) (of_decide_eq_true (by kernel_rfl)) k2 bel lt2) trodAll_mk0))), rfl, bel.frame _, fun h => by cases h⟩
theorem over : Rows.arenaKeepsRow.holds Try.pinned (OpenSpec.ofChange Rows.arenaKeepsSpec) :=
  OpenClaim.holds_of_wide 3 Try.f3 rfl rfl rfl rfl rfl rfl rfl ⟨rfl, rfl, rfl, rfl, rfl⟩ rfl rfl rfl rfl rfl (by kernel_rfl) Try.func3 (by kernel_rfl)
    (of_decide_eq_true (by kernel_rfl)) (by unfold Func.isWrapper; first | (rw [if_pos (by decide +kernel)]; kernel_rfl) | (rw [if_neg (by decide +kernel)]; exact ⟨rfl, rfl⟩))
    (fun os started H enc _ => lifted os started H enc)
theorem proved : Rows.ArenaKeepsSaid := over
end Go.Proofs.Ytpjgoiogpgggeaa.arenaKeeps
