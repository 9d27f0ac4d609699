/- Lemmas: The chain's laws over numbers and lists: what they reckon. · The writer's plan is gone through by the walker: its cost, its peak. · The reference's walker, plainly: lists beside the walker's flags. · The reference's walker in memory. · The reference's Do, walked: a place is reckoned. · The reference's Do, walked: a place is reckoned. Conditions: none beyond each lemma's own. -/
import Derived.Below
import Derived.Deep.Draws
import Derived.Deep.AppendLies
import Derived.Maps.AppendAt
import Derived.OwnWalk
import Derived.Laws.BytesArg
import Derived.Laws.MakeOwn
import Derived.Laws.OwnMore
import Derived.Deep.OwnRows
import Derived.Tactics
import Derived.Lib.ConvBytes
import Derived.Laws.Slices
import Derived.WalkKit
import Derived.KernelRfl
import Derived.RowKit3
import Derived.Deep.LoopGhost
import Derived.Deep.QuietTactic
import Derived.BigQuiet
import Derived.WideLaws
import Derived.Deep.DeepCutAuto
import Derived.Deep.CutBlock
import Derived.Deep.RegionHeld3
import Derived.Laws.Rows
import Derived.Lib.AppendStr
import Derived.ArgAppend
import Derived.Laws.IdiomCopy
import Derived.RowKit
import Derived.OrdersHeld
import Derived.Laws.BitsLemmas
import Derived.WalkSpells
import Derived.WalkLawsBesides
import Derived.Lib.Hide
import Derived.Deep.RegionLaw
import Derived.Laws.CopyOwn
import Derived.Laws.Externs
import Derived.Lib.Overlaps
import Derived.Lib.AppendZeros
import Derived.Deep.Slices
import Derived.Deep.Fields
import Derived.ChangeSame
import Derived.ProofKit
import Derived.Test.YtiejdbdbafmccaaProg
import Derived.DeepKeys4
import Derived.Maps.Keyed
import Derived.Lib.AppendZerosOnto
import Derived.Test.YtiejdbdbafmccaaMC4
set_option linter.unusedVariables false
set_option linter.unusedSimpArgs false
/- part WRepsOne -/
namespace Go.Proofs.YtiejdbdbafmccaaW.PrintWords
theorem Reps.one {α : Type} {R : α → List Value → Prop} {ps : List α} {cs : List Value} {p : α} {v : Value} (hp : R p [v]) (h : Reps R 1 ps cs) : Reps R 1 (p :: ps) (v :: cs) := by
  refine ⟨by simp [h.1], fun j q hq => ?_⟩
  cases j with
  | zero =>
    simp only [List.getElem?_cons_zero, Option.some.injEq] at hq
    subst hq
    simpa using hp
  | succ j =>
    simp only [List.getElem?_cons_succ] at hq
    have h1 := h.2 j q hq
    simpa [Nat.mul_one] using h1
theorem Reps.front {α : Type} {R : α → List Value → Prop} {size : Nat} {ps : List α} {cs c all : List Value} {p : α} (hp : R p c) (hc : c.length = size) (h : Reps R size ps cs) (ha : c ++ cs = all) : Reps R size (p :: ps) all := by
  subst ha
  refine ⟨by rw [List.length_append, hc, h.1, List.length_cons, Nat.succ_mul, Nat.add_comm], fun j q hq => ?_⟩
  cases j with
  | zero =>
    simp only [List.getElem?_cons_zero, Option.some.injEq] at hq
    subst hq
    rw [Nat.zero_mul, List.drop_zero, List.take_append_of_le_length (by omega), List.take_of_length_le (by omega)]
    exact hp
  | succ j =>
    simp only [List.getElem?_cons_succ] at hq
    have h1 := h.2 j q hq
    rw [Nat.succ_mul, List.drop_append, List.drop_of_length_le (by rw [hc]; exact Nat.le_add_left _ _), List.nil_append, hc, Nat.add_sub_cancel]
    exact h1
theorem Reps.c2 {α : Type} {R : α → List Value → Prop} {ps : List α} {cs : List Value} {p : α} {va vb : Value} (hp : R p [va, vb]) (h : Reps R 2 ps cs) : Reps R 2 (p :: ps) (va :: vb :: cs) := Reps.front hp rfl h rfl
theorem Reps.c3 {α : Type} {R : α → List Value → Prop} {ps : List α} {cs : List Value} {p : α} {va vb vc : Value} (hp : R p [va, vb, vc]) (h : Reps R 3 ps cs) : Reps R 3 (p :: ps) (va :: vb :: vc :: cs) := Reps.front hp rfl h rfl
theorem Reps.c4 {α : Type} {R : α → List Value → Prop} {ps : List α} {cs : List Value} {p : α} {va vb vc vd : Value} (hp : R p [va, vb, vc, vd]) (h : Reps R 4 ps cs) : Reps R 4 (p :: ps) (va :: vb :: vc :: vd :: cs) := Reps.front hp rfl h rfl
theorem Reps.c5 {α : Type} {R : α → List Value → Prop} {ps : List α} {cs : List Value} {p : α} {va vb vc vd ve : Value} (hp : R p [va, vb, vc, vd, ve]) (h : Reps R 5 ps cs) : Reps R 5 (p :: ps) (va :: vb :: vc :: vd :: ve :: cs) := Reps.front hp rfl h rfl
theorem Reps.c6 {α : Type} {R : α → List Value → Prop} {ps : List α} {cs : List Value} {p : α} {va vb vc vd ve vf : Value} (hp : R p [va, vb, vc, vd, ve, vf]) (h : Reps R 6 ps cs) : Reps R 6 (p :: ps) (va :: vb :: vc :: vd :: ve :: vf :: cs) := Reps.front hp rfl h rfl
theorem Reps.c7 {α : Type} {R : α → List Value → Prop} {ps : List α} {cs : List Value} {p : α} {va vb vc vd ve vf vg : Value} (hp : R p [va, vb, vc, vd, ve, vf, vg]) (h : Reps R 7 ps cs) : Reps R 7 (p :: ps) (va :: vb :: vc :: vd :: ve :: vf :: vg :: cs) := Reps.front hp rfl h rfl
theorem Reps.c8 {α : Type} {R : α → List Value → Prop} {ps : List α} {cs : List Value} {p : α} {va vb vc vd ve vf vg vh : Value} (hp : R p [va, vb, vc, vd, ve, vf, vg, vh]) (h : Reps R 8 ps cs) : Reps R 8 (p :: ps) (va :: vb :: vc :: vd :: ve :: vf :: vg :: vh :: cs) := Reps.front hp rfl h rfl
theorem Reps.c9 {α : Type} {R : α → List Value → Prop} {ps : List α} {cs : List Value} {p : α} {va vb vc vd ve vf vg vh vi : Value} (hp : R p [va, vb, vc, vd, ve, vf, vg, vh, vi]) (h : Reps R 9 ps cs) : Reps R 9 (p :: ps) (va :: vb :: vc :: vd :: ve :: vf :: vg :: vh :: vi :: cs) := Reps.front hp rfl h rfl
theorem Reps.c10 {α : Type} {R : α → List Value → Prop} {ps : List α} {cs : List Value} {p : α} {va vb vc vd ve vf vg vh vi vj : Value} (hp : R p [va, vb, vc, vd, ve, vf, vg, vh, vi, vj]) (h : Reps R 10 ps cs) : Reps R 10 (p :: ps) (va :: vb :: vc :: vd :: ve :: vf :: vg :: vh :: vi :: vj :: cs) := Reps.front hp rfl h rfl
end Go.Proofs.YtiejdbdbafmccaaW.PrintWords
/- part PChx6 -/
namespace Go.Proofs.Ytiejdbdbafmccaa.PCh
open Go.RowKit Go.Proofs.YtiejdbdbafmccaaW.PrintWords Go.Proofs.YtiejdbdbafmccaaW.PrintLast Go.Proofs.YtiejdbdbafmccaaW.PrintMore
attribute [local go_sem] max2_int min2_int max_two min_two max_three min_three max_four min_four
set_option linter.unusedVariables false
set_option linter.unusedSimpArgs false
def athanorlaw20_awake.f (k : Nat)  : Option (Bool) := (some (([1, 1, 1] : List Int) : List Int)).bind fun y116 => ((some (([1, 1] : List Int) : List Int)).bind fun y119 => ((chain_Chain_Least.f y116 y119 3).bind fun bt123 => ((chain_Chain_Least.f y116 y119 1).bind fun bt125 => ((chain_Chain_Plan.f y116 y119 3).bind fun bt127 => ((chain_Chain_Walk.f y116 y119 3 bt127.1).bind fun bt131 => ((chain_Chain_Lowest.f k y116 y119).bind fun bt134 => (if bt123.1 = 2 then (if bt123.2 = 0 then (if bt125.2 = 26 then (if bt127.2 = 0 then (if bt131.1 = 2 then (if bt131.2.1 = 3 then (if bt131.2.2 = 0 then (if bt134.1 = 3 then (if bt134.2 = 0 then ((chain_Chain_Total.f k y116 y119).bind fun t136 => (some (t136 == 2))) else (some false)) else (some false)) else (some false)) else (some false)) else (some false)) else (some false)) else (some false)) else (some false)) else (some false))))))))
theorem athanorlaw20_awake.mono : ∀ k, LeO (athanorlaw20_awake.f k ) (athanorlaw20_awake.f (k + 1) ) := by
  intro  k
  unfold athanorlaw20_awake.f
  repeat' first
      | (with_reducible exact chain_Chain_Lowest.mono _ _ _)
      | (with_reducible exact chain_Chain_Total.mono _ _ _)
      | (with_reducible exact LeO.refl _)
      | (with_reducible exact LeO.none _)
      | (with_reducible refine LeO.ite ?_ ?_)
      | (with_reducible refine LeO.bind ?_ (fun _ => ?_))
      | exact chain_Chain_Lowest.mono _ _ _
      | exact chain_Chain_Total.mono _ _ _
      | exact LeO.none _
      | refine LeO.ite ?_ ?_
      | refine LeO.bind ?_ (fun _ => ?_)
theorem athanorlaw20_awake.true_ {k : Nat} {r : Bool} (h : athanorlaw20_awake.f k = some r) : r = true := by
  have h2 : athanorlaw20_awake.f 40 = some true := by decide +kernel
  have a := at_rounds (athanorlaw20_awake.mono) (Nat.le_max_left k 40) h
  have b := at_rounds (athanorlaw20_awake.mono) (Nat.le_max_right k 40) h2
  rw [a] at b
  injection b
set_option maxHeartbeats 8000000 in
set_option maxRecDepth 100000 in
theorem athanorlaw20_awake.calls (k : Nat)  (r : Bool) (w : World) (h : athanorlaw20_awake.f k  = some r) :
    Calls Try.prog 9 #[] w fun e w' => e = .returned (.bool r) ∧ Below w.heap.size w w' := by
  have hu24 := Try.underlying24
  have HB := Aside0.mk (Below.refl w.heap.size w)
  have HRT := Aside0.mk (athanorlaw20_awake.true_ h)
  have H : ((some (([1, 1, 1] : List Int) : List Int)).bind fun y116 => ((some (([1, 1] : List Int) : List Int)).bind fun y119 => ((chain_Chain_Least.f y116 y119 3).bind fun bt123 => ((chain_Chain_Least.f y116 y119 1).bind fun bt125 => ((chain_Chain_Plan.f y116 y119 3).bind fun bt127 => ((chain_Chain_Walk.f y116 y119 3 bt127.1).bind fun bt131 => ((chain_Chain_Lowest.f k y116 y119).bind fun bt134 => (if bt123.1 = 2 then (if bt123.2 = 0 then (if bt125.2 = 26 then (if bt127.2 = 0 then (if bt131.1 = 2 then (if bt131.2.1 = 3 then (if bt131.2.2 = 0 then (if bt134.1 = 3 then (if bt134.2 = 0 then ((chain_Chain_Total.f k y116 y119).bind fun t136 => (some (t136 == 2))) else (some false)) else (some false)) else (some false)) else (some false)) else (some false)) else (some false)) else (some false)) else (some false)) else (some false))))))))) = some r := h
  clear h
  obtain ⟨y116, hy116⟩ : ∃ y_ : List Int, y_ = (([1, 1, 1] : List Int)) := ⟨_, rfl⟩
  replace H : ((some (([1, 1] : List Int) : List Int)).bind fun y119 => ((chain_Chain_Least.f y116 y119 3).bind fun bt123 => ((chain_Chain_Least.f y116 y119 1).bind fun bt125 => ((chain_Chain_Plan.f y116 y119 3).bind fun bt127 => ((chain_Chain_Walk.f y116 y119 3 bt127.1).bind fun bt131 => ((chain_Chain_Lowest.f k y116 y119).bind fun bt134 => (if bt123.1 = 2 then (if bt123.2 = 0 then (if bt125.2 = 26 then (if bt127.2 = 0 then (if bt131.1 = 2 then (if bt131.2.1 = 3 then (if bt131.2.2 = 0 then (if bt134.1 = 3 then (if bt134.2 = 0 then ((chain_Chain_Total.f k y116 y119).bind fun t136 => (some (t136 == 2))) else (some false)) else (some false)) else (some false)) else (some false)) else (some false)) else (some false)) else (some false)) else (some false)) else (some false)))))))) = some r := by first | (rw [hy116]; with_reducible exact H) | (have H2_ := (Option.bind_some _ _).symm.trans H; rw [hy116]; with_reducible exact H2_) | (have H2_ := (Option.bind_some _ _).symm.trans H; with_reducible exact H2_) | with_reducible exact H | (rw [hy116]; exact H) | exact H
  have Ny116 := Aside0.mk hy116
  clear hy116
  obtain ⟨y119, hy119⟩ : ∃ y_ : List Int, y_ = (([1, 1] : List Int)) := ⟨_, rfl⟩
  replace H : ((chain_Chain_Least.f y116 y119 3).bind fun bt123 => ((chain_Chain_Least.f y116 y119 1).bind fun bt125 => ((chain_Chain_Plan.f y116 y119 3).bind fun bt127 => ((chain_Chain_Walk.f y116 y119 3 bt127.1).bind fun bt131 => ((chain_Chain_Lowest.f k y116 y119).bind fun bt134 => (if bt123.1 = 2 then (if bt123.2 = 0 then (if bt125.2 = 26 then (if bt127.2 = 0 then (if bt131.1 = 2 then (if bt131.2.1 = 3 then (if bt131.2.2 = 0 then (if bt134.1 = 3 then (if bt134.2 = 0 then ((chain_Chain_Total.f k y116 y119).bind fun t136 => (some (t136 == 2))) else (some false)) else (some false)) else (some false)) else (some false)) else (some false)) else (some false)) else (some false)) else (some false)) else (some false))))))) = some r := by first | (rw [hy119]; with_reducible exact H) | (have H2_ := (Option.bind_some _ _).symm.trans H; rw [hy119]; with_reducible exact H2_) | (have H2_ := (Option.bind_some _ _).symm.trans H; with_reducible exact H2_) | with_reducible exact H | (rw [hy119]; exact H) | exact H
  have Ny119 := Aside0.mk hy119
  clear hy119
  replace H := Option.bind_eq_some_iff.mp H
  obtain ⟨⟨t123, t124⟩, A10, H⟩ := H
  replace H : ((chain_Chain_Least.f y116 y119 1).bind fun bt125 => ((chain_Chain_Plan.f y116 y119 3).bind fun bt127 => ((chain_Chain_Walk.f y116 y119 3 bt127.1).bind fun bt131 => ((chain_Chain_Lowest.f k y116 y119).bind fun bt134 => (if t123 = 2 then (if t124 = 0 then (if bt125.2 = 26 then (if bt127.2 = 0 then (if bt131.1 = 2 then (if bt131.2.1 = 3 then (if bt131.2.2 = 0 then (if bt134.1 = 3 then (if bt134.2 = 0 then ((chain_Chain_Total.f k y116 y119).bind fun t136 => (some (t136 == 2))) else (some false)) else (some false)) else (some false)) else (some false)) else (some false)) else (some false)) else (some false)) else (some false)) else (some false)))))) = some r := H
  have A1 := Aside0.mk A10
  clear A10
  replace H := Option.bind_eq_some_iff.mp H
  obtain ⟨⟨t125, t126⟩, A20, H⟩ := H
  replace H : ((chain_Chain_Plan.f y116 y119 3).bind fun bt127 => ((chain_Chain_Walk.f y116 y119 3 bt127.1).bind fun bt131 => ((chain_Chain_Lowest.f k y116 y119).bind fun bt134 => (if t123 = 2 then (if t124 = 0 then (if t126 = 26 then (if bt127.2 = 0 then (if bt131.1 = 2 then (if bt131.2.1 = 3 then (if bt131.2.2 = 0 then (if bt134.1 = 3 then (if bt134.2 = 0 then ((chain_Chain_Total.f k y116 y119).bind fun t136 => (some (t136 == 2))) else (some false)) else (some false)) else (some false)) else (some false)) else (some false)) else (some false)) else (some false)) else (some false)) else (some false))))) = some r := H
  have A2 := Aside0.mk A20
  clear A20
  replace H := Option.bind_eq_some_iff.mp H
  obtain ⟨⟨t127, t130⟩, A30, H⟩ := H
  replace H : ((chain_Chain_Walk.f y116 y119 3 t127).bind fun bt131 => ((chain_Chain_Lowest.f k y116 y119).bind fun bt134 => (if t123 = 2 then (if t124 = 0 then (if t126 = 26 then (if t130 = 0 then (if bt131.1 = 2 then (if bt131.2.1 = 3 then (if bt131.2.2 = 0 then (if bt134.1 = 3 then (if bt134.2 = 0 then ((chain_Chain_Total.f k y116 y119).bind fun t136 => (some (t136 == 2))) else (some false)) else (some false)) else (some false)) else (some false)) else (some false)) else (some false)) else (some false)) else (some false)) else (some false)))) = some r := H
  have A3 := Aside0.mk A30
  clear A30
  replace H := Option.bind_eq_some_iff.mp H
  obtain ⟨⟨t131, t132, t133⟩, A40, H⟩ := H
  replace H : ((chain_Chain_Lowest.f k y116 y119).bind fun bt134 => (if t123 = 2 then (if t124 = 0 then (if t126 = 26 then (if t130 = 0 then (if t131 = 2 then (if t132 = 3 then (if t133 = 0 then (if bt134.1 = 3 then (if bt134.2 = 0 then ((chain_Chain_Total.f k y116 y119).bind fun t136 => (some (t136 == 2))) else (some false)) else (some false)) else (some false)) else (some false)) else (some false)) else (some false)) else (some false)) else (some false)) else (some false))) = some r := H
  have A4 := Aside0.mk A40
  clear A40
  replace H := Option.bind_eq_some_iff.mp H
  obtain ⟨⟨t134, t135⟩, A50, H⟩ := H
  replace H : (if t123 = 2 then (if t124 = 0 then (if t126 = 26 then (if t130 = 0 then (if t131 = 2 then (if t132 = 3 then (if t133 = 0 then (if t134 = 3 then (if t135 = 0 then ((chain_Chain_Total.f k y116 y119).bind fun t136 => (some (t136 == 2))) else (some false)) else (some false)) else (some false)) else (some false)) else (some false)) else (some false)) else (some false)) else (some false)) else (some false)) = some r := H
  have A5 := Aside0.mk A50
  clear A50
  by_cases c6 : t123 = 2
  · rw [if_pos c6] at H
    have c6b0 : (t123 == 2) = true := beq_iff_eq.mpr c6
    have c6b1 : (t123 != 2) = false := bne_eq_false_iff_eq.mpr c6
    clear c6
    by_cases c7 : t124 = 0
    · rw [if_pos c7] at H
      have c7b0 : (t124 == 0) = true := beq_iff_eq.mpr c7
      have c7b1 : (t124 != 0) = false := bne_eq_false_iff_eq.mpr c7
      clear c7
      by_cases c8 : t126 = 26
      · rw [if_pos c8] at H
        have c8b0 : (t126 == 26) = true := beq_iff_eq.mpr c8
        have c8b1 : (t126 != 26) = false := bne_eq_false_iff_eq.mpr c8
        clear c8
        by_cases c9 : t130 = 0
        · rw [if_pos c9] at H
          have c9b0 : (t130 == 0) = true := beq_iff_eq.mpr c9
          have c9b1 : (t130 != 0) = false := bne_eq_false_iff_eq.mpr c9
          clear c9
          by_cases c10 : t131 = 2
          · rw [if_pos c10] at H
            have c10b0 : (t131 == 2) = true := beq_iff_eq.mpr c10
            have c10b1 : (t131 != 2) = false := bne_eq_false_iff_eq.mpr c10
            clear c10
            by_cases c11 : t132 = 3
            · rw [if_pos c11] at H
              have c11b0 : (t132 == 3) = true := beq_iff_eq.mpr c11
              have c11b1 : (t132 != 3) = false := bne_eq_false_iff_eq.mpr c11
              clear c11
              by_cases c12 : t133 = 0
              · rw [if_pos c12] at H
                have c12b0 : (t133 == 0) = true := beq_iff_eq.mpr c12
                have c12b1 : (t133 != 0) = false := bne_eq_false_iff_eq.mpr c12
                clear c12
                by_cases c13 : t134 = 3
                · rw [if_pos c13] at H
                  have c13b0 : (t134 == 3) = true := beq_iff_eq.mpr c13
                  have c13b1 : (t134 != 3) = false := bne_eq_false_iff_eq.mpr c13
                  clear c13
                  by_cases c14 : t135 = 0
                  · rw [if_pos c14] at H
                    have c14b0 : (t135 == 0) = true := beq_iff_eq.mpr c14
                    have c14b1 : (t135 != 0) = false := bne_eq_false_iff_eq.mpr c14
                    clear c14
                    replace H := Option.bind_eq_some_iff.mp H
                    obtain ⟨t136, A150, H⟩ := H
                    replace H : (some (t136 == 2)) = some r := H
                    have A15 := Aside0.mk A150
                    clear A150
                    obtain rfl := Option.some.inj H
                    go_enter Try.func9, Try.ntmps9
                    go_wp2_with (first | ((with_reducible refine gate_dst (N := 13) rfl ?_); refine Kd.R_lit (Kd.int .i64) _ 3 ?hg (N := 13) ?hd (xs := ([1, 1, 1] : List Int)) (inner := [.int .i64 1, .int .i64 1, .int .i64 1]) (ok := fun _ => True) (okp := fun _ => True) ?hr ?hp (fun _ hk => hk) trivial (Below.refl _ _) (Nat.le_refl _) (by simp) ?_; (case hd => rfl); (case hg => rfl); (case hr => first | (go_simp; done) | (go_simp; rfl)); (case hp => exact (Reps.one (show Kd.M (Kd.int .i64) _ _ _ 1 [.int .i64 1] from rfl) (Reps.one (show Kd.M (Kd.int .i64) _ _ _ 1 [.int .i64 1] from rfl) (Reps.one (show Kd.M (Kd.int .i64) _ _ _ 1 [.int .i64 1] from rfl) (Reps.none _ _))))); intro v117 w16 ho17 hb hg_ hnew_; clear hg_ hnew_; (first | rw [← Ny116.out] at ho17 | (simp only [Int.reduceToNat] at ho17; rw [← Ny116.out] at ho17)); have n0_ := Aside0.mk (Kd.R_lower ho17 (below_size (by repeat (first | (with_reducible first | exact HB.out | apply below_alloc | apply pw_below_drewN | apply below_drew1) | exact HB.out)))); have n1_ := Aside0.mk (below_step (by repeat (first | (with_reducible first | exact HB.out | apply below_alloc | apply pw_below_drewN | apply below_drew1) | exact HB.out)) hb); clear HB; have HO118 := n0_; have HB := n1_; clear n0_ n1_; clear hb ho17) | ((with_reducible refine gate_dst (N := 14) rfl ?_); refine Kd.R_lit (Kd.int .i64) _ 3 ?hg (N := 14) ?hd (xs := ([1, 1] : List Int)) (inner := [.int .i64 1, .int .i64 1]) (ok := fun _ => True) (okp := fun _ => True) ?hr ?hp (fun _ hk => hk) trivial (Below.refl _ _) (Nat.le_refl _) (by simp) ?_; (case hd => rfl); (case hg => rfl); (case hr => first | (go_simp; done) | (go_simp; rfl)); (case hp => exact (Reps.one (show Kd.M (Kd.int .i64) _ _ _ 1 [.int .i64 1] from rfl) (Reps.one (show Kd.M (Kd.int .i64) _ _ _ 1 [.int .i64 1] from rfl) (Reps.none _ _)))); intro v120 w18 ho19 hb hg_ hnew_; clear hg_ hnew_; (first | rw [← Ny119.out] at ho19 | (simp only [Int.reduceToNat] at ho19; rw [← Ny119.out] at ho19)); have n0_ := Aside0.mk (Kd.R_elder' (by (with_reducible repeat (first | apply Kd.R_alloc | apply Kd.R_drewN | apply Kd.R_drew)); exact HO118.out) (Kd.R_base ho19) hb); have n1_ := Aside0.mk (Kd.R_lower (Kd.R_new' ho19 (Kd.R_lt (by (with_reducible repeat (first | apply Kd.R_alloc | apply Kd.R_drewN | apply Kd.R_drew)); exact HO118.out))) (below_size (by repeat (first | (with_reducible first | exact HB.out | apply below_alloc | apply pw_below_drewN | apply below_drew1) | exact HB.out)))); have n2_ := Aside0.mk (below_step (by repeat (first | (with_reducible first | exact HB.out | apply below_alloc | apply pw_below_drewN | apply below_drew1) | exact HB.out)) hb); clear HO118; clear HB; have HO118 := n0_; have HO121 := n1_; have HB := n2_; clear n0_ n1_ n2_; clear hb ho19; obtain ⟨Ao20, co20, eo20⟩ := Kd.R_slice HO121.out; subst eo20; obtain ⟨Ao21, co21, eo21⟩ := Kd.R_slice HO118.out; subst eo21) | ((with_reducible refine gate_dst (N := 1) rfl ?_); refine box_event ?hg (N := 1) ?hd (cs := #[.slice none 0 0, .slice none 0 0]) (t := 24) ?hr ?_; (case hd => rfl); (case hg => rfl); (case hr => first | (go_simp; done) | (go_simp; rfl)); intro gb122 hg w22 hbox hb; have n0_ := Aside0.mk (Kd.R_below (by (with_reducible repeat (first | apply Kd.R_alloc | apply Kd.R_drewN | apply Kd.R_drew)); exact HO118.out) hb); have n1_ := Aside0.mk (Kd.R_below (by (with_reducible repeat (first | apply Kd.R_alloc | apply Kd.R_drewN | apply Kd.R_drew)); exact HO121.out) hb); have n2_ := Aside0.mk (below_step (by repeat (first | (with_reducible first | exact HB.out | apply below_alloc | apply pw_below_drewN | apply below_drew1) | exact HB.out)) hb); have n3_ := Aside0.mk (hbox); have n4_ := Aside0.mk ((by rw [hg]; exact (below_size (by repeat (first | (with_reducible first | exact HB.out | apply below_alloc | apply pw_below_drewN | apply below_drew1) | exact HB.out))) : w.heap.size ≤ gb122)); have n5_ := Aside0.mk ((by rw [hg]; exact (below_size (by repeat (first | (with_reducible first | exact HB.out | apply below_alloc | apply pw_below_drewN | apply below_drew1) | exact HB.out))) : w.heap.size ≤ gb122)); clear HO118; clear HO121; clear HB; have HO118 := n0_; have HO121 := n1_; have HB := n2_; have BK122 := n3_; have GW122 := n4_; have GE122 := n5_; clear n0_ n1_ n2_ n3_ n4_ n5_; clear hb hbox hg; have hcz23_0 : w22.cell? ⟨gb122, 0, none⟩ = some (.slice none 0 0) := (blk_cell BK122.out 0).trans rfl; have hcz23_1 : w22.cell? ⟨gb122, 1, none⟩ = some (.slice none 0 0) := (blk_cell BK122.out 1).trans rfl; have hfz23_0 := blk_frozen BK122.out 0; have hfz23_1 := blk_frozen BK122.out 1) | ((with_reducible refine gate_callee (f := 10) rfl ?_); refine goesL_ (some 18) rfl rfl Try.func10 (by kernel_rfl) rfl #[.agg #[.slice Ao21 y116.length co21, .slice Ao20 y119.length co20], .int .i64 3] rfl (by (try simp only [List.map_toArray, List.map_cons, List.map_nil]); first | done | rfl | (simp only [List.length_drop, List.length_take]; rfl)) ?_; (with_reducible refine (chain_Chain_Least.calls _ _ y116 _ _ y119 3 t123 t124 _ ?side1 ?side2 ?side3 ?side4 A1.out).mono ?_); (case side1 => refine (Kd.R_reads' (e := 3) (base := w.heap.size) (ok := fun k_ => (True ∧ some k_ ≠ (.slice Ao20 y119.length co20 : Value).ownBlock)) (n := y116.length) (c := co21) ?_).2.2; exact (by (with_reducible repeat (first | apply Kd.R_alloc | apply Kd.R_drewN | apply Kd.R_drew)); exact (Kd.R_mono (Kd.R_far (p := ⟨gb122, 1, none⟩) (Kd.R_far (p := ⟨gb122, 0, none⟩) (Kd.R_types HO118.out BK122.out (by decide)) (fun _ hk => hk.2) (.slice Ao21 y116.length co21)) (fun _ hk => hk.2) (.slice Ao20 y119.length co20)) (fun _ h_ => h_.1)))); (case side2 => exact (Kd.R_reads' HO118.out).2.1); (case side3 => refine (Kd.R_reads' (e := 3) (base := w.heap.size) (ok := fun k_ => (True ∧ some k_ ≠ (.slice Ao21 y116.length co21 : Value).ownBlock)) (n := y119.length) (c := co20) ?_).2.2; exact (by (with_reducible repeat (first | apply Kd.R_alloc | apply Kd.R_drewN | apply Kd.R_drew)); exact (Kd.R_mono (Kd.R_far (p := ⟨gb122, 1, none⟩) (Kd.R_far (p := ⟨gb122, 0, none⟩) (Kd.R_types HO121.out BK122.out (by decide)) (fun _ hk => hk.2) (.slice Ao21 y116.length co21)) (fun _ hk => hk.2) (.slice Ao20 y119.length co20)) (fun _ h_ => h_.1)))); (case side4 => exact (Kd.R_reads' HO121.out).2.1); rintro e w24 ⟨rfl, hb⟩; refine ⟨_, rfl, ?_⟩; have n0_ := Aside0.mk (Kd.R_below (by (with_reducible repeat (first | apply Kd.R_alloc | apply Kd.R_drewN | apply Kd.R_drew)); exact (Kd.R_mono (Kd.R_far (p := ⟨gb122, 1, none⟩) (Kd.R_far (p := ⟨gb122, 0, none⟩) (Kd.R_types HO118.out BK122.out (by decide)) (fun _ hk => hk.2) (.slice Ao21 y116.length co21)) (fun _ hk => hk.2) (.slice Ao20 y119.length co20)) (fun _ h_ => h_.1))) hb); have n1_ := Aside0.mk (Kd.R_below (by (with_reducible repeat (first | apply Kd.R_alloc | apply Kd.R_drewN | apply Kd.R_drew)); exact (Kd.R_mono (Kd.R_far (p := ⟨gb122, 1, none⟩) (Kd.R_far (p := ⟨gb122, 0, none⟩) (Kd.R_types HO121.out BK122.out (by decide)) (fun _ hk => hk.2) (.slice Ao21 y116.length co21)) (fun _ hk => hk.2) (.slice Ao20 y119.length co20)) (fun _ h_ => h_.1))) hb); have n2_ := Aside0.mk (blk_below (g := gb122) (o := .cells #[.slice Ao21 y116.length co21, .slice Ao20 y119.length co20] 24 (0, 0)) (by (with_reducible repeat (first | refine blk_drewN ?_ _ | refine blk_drew ?_ | refine blk_alloc ?_ _)); refine blk_put (cs := #[.slice Ao21 y116.length co21, .slice none 0 0]) ?_ 1 _ rfl; (with_reducible repeat (first | refine blk_drewN ?_ _ | refine blk_drew ?_ | refine blk_alloc ?_ _)); refine blk_put (cs := #[.slice none 0 0, .slice none 0 0]) ?_ 0 _ rfl; (with_reducible repeat (first | refine blk_drewN ?_ _ | refine blk_drew ?_ | refine blk_alloc ?_ _)); exact BK122.out) hb); have n3_ := Aside0.mk (below_step (by repeat (first | (with_reducible first | exact HB.out | apply below_alloc | apply pw_below_drewN | apply below_drew1 | refine below_set ?_ GE122.out) | exact HB.out)) hb); clear HO118; clear HO121; clear BK122; clear HB; have HO118 := n0_; have HO121 := n1_; have BK122 := n2_; have HB := n3_; clear n0_ n1_ n2_ n3_; (try clear hb); (try clear hb2); (try clear hk); (try clear hi); have hcz25_0 : w24.cell? ⟨gb122, 0, none⟩ = some (.slice Ao21 y116.length co21) := (blk_cell BK122.out 0).trans rfl; have hcz25_1 : w24.cell? ⟨gb122, 1, none⟩ = some (.slice Ao20 y119.length co20) := (blk_cell BK122.out 1).trans rfl; have hfz25_0 := blk_frozen BK122.out 0; have hfz25_1 := blk_frozen BK122.out 1) | ((with_reducible refine gate_callee (f := 10) rfl ?_); refine goesL_ (some 23) rfl rfl Try.func10 (by kernel_rfl) rfl #[.agg #[.slice Ao21 y116.length co21, .slice Ao20 y119.length co20], .int .i64 1] rfl (by (try simp only [List.map_toArray, List.map_cons, List.map_nil]); first | done | rfl | (simp only [List.length_drop, List.length_take]; rfl)) ?_; (with_reducible refine (chain_Chain_Least.calls _ _ y116 _ _ y119 1 t125 t126 _ ?side1 ?side2 ?side3 ?side4 A2.out).mono ?_); (case side1 => repeat (first | exact (Kd.R_reads' HO118.out).2.2 | (with_reducible refine Kd.C_alloc ?_ _) | (with_reducible refine Kd.C_drewN ?_ _) | (with_reducible refine Kd.C_drew ?_))); (case side2 => exact (Kd.R_reads' HO118.out).2.1); (case side3 => repeat (first | exact (Kd.R_reads' HO121.out).2.2 | (with_reducible refine Kd.C_alloc ?_ _) | (with_reducible refine Kd.C_drewN ?_ _) | (with_reducible refine Kd.C_drew ?_))); (case side4 => exact (Kd.R_reads' HO121.out).2.1); rintro e w26 ⟨rfl, hb⟩; refine ⟨_, rfl, ?_⟩; have n0_ := Aside0.mk (Kd.R_below (by (with_reducible repeat (first | apply Kd.R_alloc | apply Kd.R_drewN | apply Kd.R_drew)); exact HO118.out) hb); have n1_ := Aside0.mk (Kd.R_below (by (with_reducible repeat (first | apply Kd.R_alloc | apply Kd.R_drewN | apply Kd.R_drew)); exact HO121.out) hb); have n2_ := Aside0.mk (blk_below (g := gb122) (o := .cells #[.slice Ao21 y116.length co21, .slice Ao20 y119.length co20] 24 (0, 0)) (by (with_reducible repeat (first | refine blk_drewN ?_ _ | refine blk_drew ?_ | refine blk_alloc ?_ _)); exact BK122.out) hb); have n3_ := Aside0.mk (below_step (by repeat (first | (with_reducible first | exact HB.out | apply below_alloc | apply pw_below_drewN | apply below_drew1 | refine below_set ?_ GE122.out) | exact HB.out)) hb); clear HO118; clear HO121; clear BK122; clear HB; have HO118 := n0_; have HO121 := n1_; have BK122 := n2_; have HB := n3_; clear n0_ n1_ n2_ n3_; (try clear hb); (try clear hb2); (try clear hk); (try clear hi); have hcz27_0 : w26.cell? ⟨gb122, 0, none⟩ = some (.slice Ao21 y116.length co21) := (blk_cell BK122.out 0).trans rfl; have hcz27_1 : w26.cell? ⟨gb122, 1, none⟩ = some (.slice Ao20 y119.length co20) := (blk_cell BK122.out 1).trans rfl; have hfz27_0 := blk_frozen BK122.out 0; have hfz27_1 := blk_frozen BK122.out 1) | ((with_reducible refine gate_callee (f := 11) rfl ?_); refine goesL_ (some 28) rfl rfl Try.func11 (by kernel_rfl) rfl #[.agg #[.slice Ao21 y116.length co21, .slice Ao20 y119.length co20], .int .i64 3] rfl (by (try simp only [List.map_toArray, List.map_cons, List.map_nil]); first | done | rfl | (simp only [List.length_drop, List.length_take]; rfl)) ?_; (with_reducible refine (chain_Chain_Plan.calls _ _ y116 _ _ y119 3 t127 t130 _ ?side1 ?side2 ?side3 ?side4 A3.out).mono ?_); (case side1 => repeat (first | exact (Kd.R_reads' HO118.out).2.2 | (with_reducible refine Kd.C_alloc ?_ _) | (with_reducible refine Kd.C_drewN ?_ _) | (with_reducible refine Kd.C_drew ?_))); (case side2 => exact (Kd.R_reads' HO118.out).2.1); (case side3 => repeat (first | exact (Kd.R_reads' HO121.out).2.2 | (with_reducible refine Kd.C_alloc ?_ _) | (with_reducible refine Kd.C_drewN ?_ _) | (with_reducible refine Kd.C_drew ?_))); (case side4 => exact (Kd.R_reads' HO121.out).2.1); rintro e w28 ⟨v128, rfl, ho0, hb⟩; refine ⟨_, rfl, ?_⟩; have n0_ := Aside0.mk (Kd.R_below (by (with_reducible repeat (first | apply Kd.R_alloc | apply Kd.R_drewN | apply Kd.R_drew)); exact HO118.out) hb); have n1_ := Aside0.mk (Kd.R_below (by (with_reducible repeat (first | apply Kd.R_alloc | apply Kd.R_drewN | apply Kd.R_drew)); exact HO121.out) hb); have n2_ := Aside0.mk (Kd.R_lower ho0 (below_size (by repeat (first | (with_reducible first | exact HB.out | apply below_alloc | apply pw_below_drewN | apply below_drew1 | refine below_set ?_ GE122.out) | exact HB.out)))); have n3_ := Aside0.mk (blk_below (g := gb122) (o := .cells #[.slice Ao21 y116.length co21, .slice Ao20 y119.length co20] 24 (0, 0)) (by (with_reducible repeat (first | refine blk_drewN ?_ _ | refine blk_drew ?_ | refine blk_alloc ?_ _)); exact BK122.out) hb); have n4_ := Aside0.mk (below_step (by repeat (first | (with_reducible first | exact HB.out | apply below_alloc | apply pw_below_drewN | apply below_drew1 | refine below_set ?_ GE122.out) | exact HB.out)) hb); clear HO118; clear HO121; clear BK122; clear HB; have HO118 := n0_; have HO121 := n1_; have HO129 := n2_; have BK122 := n3_; have HB := n4_; clear n0_ n1_ n2_ n3_ n4_; (try clear hb); (try clear hb2); (try clear hk); (try clear hi); (try clear ho0); have hcz29_0 : w28.cell? ⟨gb122, 0, none⟩ = some (.slice Ao21 y116.length co21) := (blk_cell BK122.out 0).trans rfl; have hcz29_1 : w28.cell? ⟨gb122, 1, none⟩ = some (.slice Ao20 y119.length co20) := (blk_cell BK122.out 1).trans rfl; have hfz29_0 := blk_frozen BK122.out 0; have hfz29_1 := blk_frozen BK122.out 1; obtain ⟨Ao30, co30, eo30⟩ := Kd.R_slice HO129.out; subst eo30) | ((with_reducible refine gate_callee (f := 13) rfl ?_); refine goesL_ (some 34) rfl rfl Try.func13 (by kernel_rfl) rfl #[.agg #[.slice Ao21 y116.length co21, .slice Ao20 y119.length co20], .int .i64 3, .slice Ao30 t127.length co30] rfl (by (try simp only [List.map_toArray, List.map_cons, List.map_nil]); first | done | rfl | (simp only [List.length_drop, List.length_take]; rfl)) ?_; (with_reducible refine (chain_Chain_Walk.calls _ _ y116 _ _ y119 3 _ _ t127 t131 t132 t133 _ ?side1 ?side2 ?side3 ?side4 ?side5 ?side6 A4.out).mono ?_); (case side1 => repeat (first | exact (Kd.R_reads' HO118.out).2.2 | (with_reducible refine Kd.C_alloc ?_ _) | (with_reducible refine Kd.C_drewN ?_ _) | (with_reducible refine Kd.C_drew ?_))); (case side2 => exact (Kd.R_reads' HO118.out).2.1); (case side3 => repeat (first | exact (Kd.R_reads' HO121.out).2.2 | (with_reducible refine Kd.C_alloc ?_ _) | (with_reducible refine Kd.C_drewN ?_ _) | (with_reducible refine Kd.C_drew ?_))); (case side4 => exact (Kd.R_reads' HO121.out).2.1); (case side5 => repeat (first | exact (Kd.R_reads' HO129.out).2.2 | (with_reducible refine Kd.C_alloc ?_ _) | (with_reducible refine Kd.C_drewN ?_ _) | (with_reducible refine Kd.C_drew ?_))); (case side6 => exact (Kd.R_reads' HO129.out).2.1); rintro e w31 ⟨rfl, hb⟩; refine ⟨_, rfl, ?_⟩; have n0_ := Aside0.mk (Kd.R_below (by (with_reducible repeat (first | apply Kd.R_alloc | apply Kd.R_drewN | apply Kd.R_drew)); exact HO118.out) hb); have n1_ := Aside0.mk (Kd.R_below (by (with_reducible repeat (first | apply Kd.R_alloc | apply Kd.R_drewN | apply Kd.R_drew)); exact HO121.out) hb); have n2_ := Aside0.mk (Kd.R_below (by (with_reducible repeat (first | apply Kd.R_alloc | apply Kd.R_drewN | apply Kd.R_drew)); exact HO129.out) hb); have n3_ := Aside0.mk (blk_below (g := gb122) (o := .cells #[.slice Ao21 y116.length co21, .slice Ao20 y119.length co20] 24 (0, 0)) (by (with_reducible repeat (first | refine blk_drewN ?_ _ | refine blk_drew ?_ | refine blk_alloc ?_ _)); exact BK122.out) hb); have n4_ := Aside0.mk (below_step (by repeat (first | (with_reducible first | exact HB.out | apply below_alloc | apply pw_below_drewN | apply below_drew1 | refine below_set ?_ GE122.out) | exact HB.out)) hb); clear HO118; clear HO121; clear HO129; clear BK122; clear HB; have HO118 := n0_; have HO121 := n1_; have HO129 := n2_; have BK122 := n3_; have HB := n4_; clear n0_ n1_ n2_ n3_ n4_; (try clear hb); (try clear hb2); (try clear hk); (try clear hi); have hcz32_0 : w31.cell? ⟨gb122, 0, none⟩ = some (.slice Ao21 y116.length co21) := (blk_cell BK122.out 0).trans rfl; have hcz32_1 : w31.cell? ⟨gb122, 1, none⟩ = some (.slice Ao20 y119.length co20) := (blk_cell BK122.out 1).trans rfl; have hfz32_0 := blk_frozen BK122.out 0; have hfz32_1 := blk_frozen BK122.out 1) | ((with_reducible refine gate_callee (f := 16) rfl ?_); refine goesL_ (some 40) rfl rfl Try.func16 (by kernel_rfl) rfl #[.agg #[.slice Ao21 y116.length co21, .slice Ao20 y119.length co20]] rfl (by (try simp only [List.map_toArray, List.map_cons, List.map_nil]); first | done | rfl | (simp only [List.length_drop, List.length_take]; rfl)) ?_; (with_reducible refine (chain_Chain_Lowest.calls k _ _ y116 _ _ y119 t134 t135 _ ?side1 ?side2 ?side3 ?side4 A5.out).mono ?_); (case side1 => repeat (first | exact (Kd.R_reads' HO118.out).2.2 | (with_reducible refine Kd.C_alloc ?_ _) | (with_reducible refine Kd.C_drewN ?_ _) | (with_reducible refine Kd.C_drew ?_))); (case side2 => exact (Kd.R_reads' HO118.out).2.1); (case side3 => repeat (first | exact (Kd.R_reads' HO121.out).2.2 | (with_reducible refine Kd.C_alloc ?_ _) | (with_reducible refine Kd.C_drewN ?_ _) | (with_reducible refine Kd.C_drew ?_))); (case side4 => exact (Kd.R_reads' HO121.out).2.1); rintro e w33 ⟨rfl, hb⟩; refine ⟨_, rfl, ?_⟩; have n0_ := Aside0.mk (Kd.R_below (by (with_reducible repeat (first | apply Kd.R_alloc | apply Kd.R_drewN | apply Kd.R_drew)); exact HO118.out) hb); have n1_ := Aside0.mk (Kd.R_below (by (with_reducible repeat (first | apply Kd.R_alloc | apply Kd.R_drewN | apply Kd.R_drew)); exact HO121.out) hb); have n2_ := Aside0.mk (Kd.R_below (by (with_reducible repeat (first | apply Kd.R_alloc | apply Kd.R_drewN | apply Kd.R_drew)); exact HO129.out) hb); have n3_ := Aside0.mk (blk_below (g := gb122) (o := .cells #[.slice Ao21 y116.length co21, .slice Ao20 y119.length co20] 24 (0, 0)) (by (with_reducible repeat (first | refine blk_drewN ?_ _ | refine blk_drew ?_ | refine blk_alloc ?_ _)); exact BK122.out) hb); have n4_ := Aside0.mk (below_step (by repeat (first | (with_reducible first | exact HB.out | apply below_alloc | apply pw_below_drewN | apply below_drew1 | refine below_set ?_ GE122.out) | exact HB.out)) hb); clear HO118; clear HO121; clear HO129; clear BK122; clear HB; have HO118 := n0_; have HO121 := n1_; have HO129 := n2_; have BK122 := n3_; have HB := n4_; clear n0_ n1_ n2_ n3_ n4_; (try clear hb); (try clear hb2); (try clear hk); (try clear hi); have hcz34_0 : w33.cell? ⟨gb122, 0, none⟩ = some (.slice Ao21 y116.length co21) := (blk_cell BK122.out 0).trans rfl; have hcz34_1 : w33.cell? ⟨gb122, 1, none⟩ = some (.slice Ao20 y119.length co20) := (blk_cell BK122.out 1).trans rfl; have hfz34_0 := blk_frozen BK122.out 0; have hfz34_1 := blk_frozen BK122.out 1) | (go_at_call 19; (with_reducible refine (chain_Chain_Total.calls k _ _ y116 _ _ y119 t136 _ ?side1 ?side2 ?side3 ?side4 A15.out).mono ?_); (case side1 => repeat (first | exact (Kd.R_reads' HO118.out).2.2 | (with_reducible refine Kd.C_alloc ?_ _) | (with_reducible refine Kd.C_drewN ?_ _) | (with_reducible refine Kd.C_drew ?_))); (case side2 => exact (Kd.R_reads' HO118.out).2.1); (case side3 => repeat (first | exact (Kd.R_reads' HO121.out).2.2 | (with_reducible refine Kd.C_alloc ?_ _) | (with_reducible refine Kd.C_drewN ?_ _) | (with_reducible refine Kd.C_drew ?_))); (case side4 => exact (Kd.R_reads' HO121.out).2.1); rintro e w35 ⟨rfl, hb⟩; have n0_ := Aside0.mk (Kd.R_below (by (with_reducible repeat (first | apply Kd.R_alloc | apply Kd.R_drewN | apply Kd.R_drew)); exact HO118.out) hb); have n1_ := Aside0.mk (Kd.R_below (by (with_reducible repeat (first | apply Kd.R_alloc | apply Kd.R_drewN | apply Kd.R_drew)); exact HO121.out) hb); have n2_ := Aside0.mk (Kd.R_below (by (with_reducible repeat (first | apply Kd.R_alloc | apply Kd.R_drewN | apply Kd.R_drew)); exact HO129.out) hb); have n3_ := Aside0.mk (blk_below (g := gb122) (o := .cells #[.slice Ao21 y116.length co21, .slice Ao20 y119.length co20] 24 (0, 0)) (by (with_reducible repeat (first | refine blk_drewN ?_ _ | refine blk_drew ?_ | refine blk_alloc ?_ _)); exact BK122.out) hb); have n4_ := Aside0.mk (below_step (by repeat (first | (with_reducible first | exact HB.out | apply below_alloc | apply pw_below_drewN | apply below_drew1 | refine below_set ?_ GE122.out) | exact HB.out)) hb); clear HO118; clear HO121; clear HO129; clear BK122; clear HB; have HO118 := n0_; have HO121 := n1_; have HO129 := n2_; have BK122 := n3_; have HB := n4_; clear n0_ n1_ n2_ n3_ n4_; (try clear hb); (try clear hb2); (try clear hk); (try clear hi)))
                    go_ret
                    exact ⟨by first | rfl | (simp [errW_none, errW_some] <;> rfl) | (simp [*, errW_none, errW_some] <;> rfl), by repeat (first | (with_reducible first | exact HB.out | apply below_alloc | apply pw_below_drewN | apply below_drew1 | refine below_set ?_ GE122.out) | exact HB.out)⟩
                  · rw [if_neg c14] at H
                    exact absurd ((Option.some.inj H).trans HRT.out) (by decide)
                · rw [if_neg c13] at H
                  exact absurd ((Option.some.inj H).trans HRT.out) (by decide)
              · rw [if_neg c12] at H
                exact absurd ((Option.some.inj H).trans HRT.out) (by decide)
            · rw [if_neg c11] at H
              exact absurd ((Option.some.inj H).trans HRT.out) (by decide)
          · rw [if_neg c10] at H
            exact absurd ((Option.some.inj H).trans HRT.out) (by decide)
        · rw [if_neg c9] at H
          exact absurd ((Option.some.inj H).trans HRT.out) (by decide)
      · rw [if_neg c8] at H
        exact absurd ((Option.some.inj H).trans HRT.out) (by decide)
    · rw [if_neg c7] at H
      exact absurd ((Option.some.inj H).trans HRT.out) (by decide)
  · rw [if_neg c6] at H
    exact absurd ((Option.some.inj H).trans HRT.out) (by decide)
end Go.Proofs.Ytiejdbdbafmccaa.PCh
/- part PChx16 -/
namespace Go.Proofs.Ytiejdbdbafmccaa.PCh
open Go.RowKit Go.Proofs.YtiejdbdbafmccaaW.PrintWords Go.Proofs.YtiejdbdbafmccaaW.PrintLast Go.Proofs.YtiejdbdbafmccaaW.PrintMore
attribute [local go_sem] max2_int min2_int max_two min_two max_three min_three max_four min_four
set_option linter.unusedVariables false
set_option linter.unusedSimpArgs false
def athanorlaw20_total.l0 : Nat → Int → List Int → Int → Int → Option (Int)
  | 0, _, _, _, _ => none
  | k + 1, x3, x7, x8, x9 => if x9 < x8 then (if 0 ≤ x9 then (if x9 < (x7.length : Int) then (athanorlaw20_total.l0 k (wrap64 (x3 + (rd x7 x9))) x7 x8 (wrap64 (x9 + 1))) else (none)) else (none)) else (some x3)
def athanorlaw20_total.f (k : Nat) (l0_0 : List Int) (l0_1 : List Int) : Option (Int) := athanorlaw20_total.l0 k 0 l0_1 (l0_1.length : Int) 0
theorem athanorlaw20_total.mono_l : ∀ k, (∀ y0 y1 y2 y3, LeO (athanorlaw20_total.l0 k y0 y1 y2 y3) (athanorlaw20_total.l0 (k + 1) y0 y1 y2 y3))
  | 0 => fun _ _ _ _ r h => by simp [athanorlaw20_total.l0] at h
  | k + 1 => by
    have ih0 := athanorlaw20_total.mono_l k
    · intro y0 y1 y2 y3
      unfold athanorlaw20_total.l0
      repeat' first
      | (with_reducible exact ih0 _ _ _ _)
      | (with_reducible exact LeO.refl _)
      | (with_reducible exact LeO.none _)
      | (with_reducible refine LeO.ite ?_ ?_)
      | (with_reducible refine LeO.bind ?_ (fun _ => ?_))
      | exact ih0 _ _ _ _
      | exact LeO.none _
      | refine LeO.ite ?_ ?_
      | refine LeO.bind ?_ (fun _ => ?_)
theorem athanorlaw20_total.mono : ∀ a0 a1 k, LeO (athanorlaw20_total.f k a0 a1) (athanorlaw20_total.f (k + 1) a0 a1) := by
  intro a0 a1 k
  have ih0 := athanorlaw20_total.mono_l k
  unfold athanorlaw20_total.f
  repeat' first
      | (with_reducible exact ih0 _ _ _ _)
      | (with_reducible exact LeO.refl _)
      | (with_reducible exact LeO.none _)
      | (with_reducible refine LeO.ite ?_ ?_)
      | (with_reducible refine LeO.bind ?_ (fun _ => ?_))
      | exact ih0 _ _ _ _
      | exact LeO.none _
      | refine LeO.ite ?_ ?_
      | refine LeO.bind ?_ (fun _ => ?_)
set_option maxHeartbeats 8000000 in
set_option maxRecDepth 100000 in
theorem athanorlaw20_total.calls (k : Nat) (A0_0 : Option Addr) (c0_0 : Nat) (l0_0 : List Int) (A0_1 : Option Addr) (c0_1 : Nat) (l0_1 : List Int) (r : Int) (w : World) (hr0_0 : Kd.C (Kd.int .i64) w A0_0 l0_0.length l0_0) (hc0_0 : l0_0.length ≤ c0_0) (hr0_1 : Kd.C (Kd.int .i64) w A0_1 l0_1.length l0_1) (hc0_1 : l0_1.length ≤ c0_1) (h : athanorlaw20_total.f k l0_0 l0_1 = some r) :
    Calls Try.prog 15 #[.agg #[.slice A0_0 l0_0.length c0_0, .slice A0_1 l0_1.length c0_1]] w fun e w' => e = .returned (.int .i64 r) ∧ Below w.heap.size w w' := by
  have hu24 := Try.underlying24
  have HR0_0 := Aside0.mk hr0_0
  have HC0_0 := Aside0.mk hc0_0
  clear hr0_0 hc0_0
  have HR0_1 := Aside0.mk hr0_1
  have HC0_1 := Aside0.mk hc0_1
  clear hr0_1 hc0_1
  have HB := Aside0.mk (Below.refl w.heap.size w)
  have H : (athanorlaw20_total.l0 k 0 l0_1 (l0_1.length : Int) 0) = some r := h
  clear h
  have H' := Aside0.mk H
  clear H
  go_enter Try.func15, Try.ntmps15
  go_wp2_with (first | ((with_reducible refine gate_dst (N := 1) rfl ?_); refine box_event ?hg (N := 1) ?hd (cs := #[.slice A0_0 l0_0.length c0_0, .slice A0_1 l0_1.length c0_1]) (t := 24) ?hr ?_; (case hd => rfl); (case hg => rfl); (case hr => first | (go_simp; done) | (go_simp; rfl)); intro gb191 hg w2 hbox hb; have n0_ := Aside0.mk (below_step (by repeat (first | (with_reducible first | exact HB.out | apply below_alloc | apply pw_below_drewN | apply below_drew1) | exact HB.out)) hb); have n1_ := Aside0.mk (hbox); have n2_ := Aside0.mk ((by rw [hg]; exact (below_size (by repeat (first | (with_reducible first | exact HB.out | apply below_alloc | apply pw_below_drewN | apply below_drew1) | exact HB.out))) : w.heap.size ≤ gb191)); have n3_ := Aside0.mk ((by rw [hg]; exact (below_size (by repeat (first | (with_reducible first | exact HB.out | apply below_alloc | apply pw_below_drewN | apply below_drew1) | exact HB.out))) : w.heap.size ≤ gb191)); clear HB; have HB := n0_; have BK191 := n1_; have GW191 := n2_; have GE191 := n3_; clear n0_ n1_ n2_ n3_; clear hb hbox hg; have hcz3_0 : w2.cell? ⟨gb191, 0, none⟩ = some (.slice A0_0 l0_0.length c0_0) := (blk_cell BK191.out 0).trans rfl; have hcz3_1 : w2.cell? ⟨gb191, 1, none⟩ = some (.slice A0_1 l0_1.length c0_1) := (blk_cell BK191.out 1).trans rfl; have hfz3_0 := blk_frozen BK191.out 0; have hfz3_1 := blk_frozen BK191.out 1))
  go_loopg [3, 9] k (fun kq v3 v9 w' => ∃ (x3_1 : Int) (x9_1 : Int), v3 = .int .i64 x3_1 ∧ v9 = .int .i64 x9_1 ∧ Aside0 (athanorlaw20_total.l0 kq x3_1 l0_1 (l0_1.length : Int) x9_1 = some r) ∧ Aside0 (kq ≤ k) ∧ Aside0 (w'.heap[gb191]? = some (.cells #[(.slice A0_0 l0_0.length c0_0), (.slice A0_1 l0_1.length c0_1)] 24 (0, 0))) ∧ Aside0 (Below w.heap.size w w'))
  case atStart => exact ⟨(0), (0), (by first | rfl | (simp; done) | (simp [*]; done)), (by first | rfl | (simp; done) | (simp [*]; done)), H', ⟨Nat.le_refl _⟩, ⟨by (with_reducible repeat (first | refine blk_drewN ?_ _ | refine blk_drew ?_ | refine blk_alloc ?_ _)); exact BK191.out⟩, ⟨by repeat (first | (with_reducible first | exact HB.out | apply below_alloc | apply pw_below_drewN | apply below_drew1 | refine below_set ?_ GE191.out) | exact HB.out)⟩⟩
  case round =>
    clear H'
    try clear c1
    try clear p2
    try clear hcz3_0
    try clear hcz3_1
    try clear hfz3_0
    try clear hfz3_1
    obtain ⟨x3_1, x9_1, rfl, rfl, HA, HK1, BK191, HB⟩ := hrel
    cases gk with
    | zero => exact absurd HA.out (by simp [athanorlaw20_total.l0])
    | succ k1 =>
      have H := HA.out
      clear HA
      simp only [athanorlaw20_total.l0] at H
      by_cases c4 : x9_1 < (l0_1.length : Int)
      · rw [if_pos c4] at H
        have c4b0 : decide (x9_1 < (l0_1.length : Int)) = true := decide_eq_true c4
        clear c4
        by_cases c5 : 0 ≤ x9_1
        · rw [if_pos c5] at H
          have c5b0 : decide (0 ≤ x9_1) = true := decide_eq_true c5
          clear c5
          by_cases c6 : x9_1 < (l0_1.length : Int)
          · rw [if_pos c6] at H
            have c6b0 : decide (x9_1 < (l0_1.length : Int)) = true := decide_eq_true c6
            clear c6
            have H' := Aside0.mk H
            clear H
            have p192 : 0 ≤ (x9_1 : Int) := of_decide_eq_true (by first | (with_reducible assumption) | assumption)
            have q192 : x9_1 < (l0_1.length : Int) := of_decide_eq_true (by first | (with_reducible assumption) | assumption)
            obtain ⟨ad192, e192, hx192_0⟩ := Kd.at_int HR0_1.out x9_1 p192 q192
            cases e192
            replace hx192_0 := (HB.out.cell (World.block_lt_of_cell? w _ hx192_0)).trans hx192_0
            replace p192 := eq_true p192
            replace q192 := eq_true q192
            go_wp2
            go_roundg k1
            case measure => have := HK1.out; omega
            case rel => exact ⟨(wrap64 (x3_1 + (rd l0_1 x9_1))), (wrap64 (x9_1 + 1)), (by first | rfl | (simp; done) | (simp [*]; done)), (by first | rfl | (simp; done) | (simp [*]; done)), H', ⟨by have := HK1.out; omega⟩, ⟨by (with_reducible repeat (first | refine blk_drewN ?_ _ | refine blk_drew ?_ | refine blk_alloc ?_ _)); exact BK191.out⟩, ⟨by repeat (first | (with_reducible first | exact HB.out | apply below_alloc | apply pw_below_drewN | apply below_drew1 | refine below_set ?_ GE191.out) | exact HB.out)⟩⟩
          · rw [if_neg c6] at H
            exact absurd H (by simp)
        · rw [if_neg c5] at H
          exact absurd H (by simp)
      · rw [if_neg c4] at H
        have c4b0 : decide (x9_1 < (l0_1.length : Int)) = false := decide_eq_false c4
        clear c4
        obtain rfl := Option.some.inj H
        go_wp2
        go_ret
        exact ⟨by first | rfl | (simp [errW_none, errW_some] <;> rfl) | (simp [*, errW_none, errW_some] <;> rfl), by repeat (first | (with_reducible first | exact HB.out | apply below_alloc | apply pw_below_drewN | apply below_drew1 | refine below_set ?_ GE191.out) | exact HB.out)⟩
end Go.Proofs.Ytiejdbdbafmccaa.PCh
/- part ChLaw -/
namespace Go.Proofs.Ytiejdbdbafmccaa
open Go.RowKit Go.Proofs.YtiejdbdbafmccaaW.PrintWords Go.Proofs.Ytiejdbdbafmccaa.PCh
theorem rd_nat (xs : List Int) (i : Nat) : rd xs (i : Int) = xs.getD i 0 := rfl
theorem drop_at {α : Type} (xs : List α) (i : Nat) (h : i < xs.length) : xs.drop i = xs[i] :: xs.drop (i + 1) := List.drop_eq_getElem_cons h
theorem getD_at (xs : List Int) (i : Nat) (h : i < xs.length) : xs.getD i 0 = xs[i] := by simp [h]
theorem w1 (i : Nat) (h : i ≤ 1000000) : wrap64 ((i : Int) + 1) = ((i + 1 : Nat) : Int) := by rw [wr64 (by omega) (by omega)]; omega
theorem ref02_ev (x : Int) : athanorref02_Right.f x = some (!dearB x) := by
  unfold athanorref02_Right.f dearB
  by_cases h : x ≥ 0
  · rw [if_pos h]
    congr 1
    rw [Bool.eq_iff_iff]
    simp
    omega
  · rw [if_neg h]
    congr 1
    rw [Bool.eq_iff_iff]
    simp
    omega
theorem right_l1 (cs : List Int) (hl : cs.length ≤ 1000) : ∀ d i, cs.length - i = d → i ≤ cs.length → Ev (fun k => athanorlaw20_right.l1 k cs (cs.length : Int) (i : Int)) (!(cs.drop i).any dearB)
  | 0, i, hd, hi => by
    obtain rfl : i = cs.length := by omega
    rw [List.drop_length]
    show Ev _ true
    exact Ev.step (fun k => by rw [athanorlaw20_right.l1, if_neg (by omega)]) (Ev.now _)
  | d + 1, i, hd, hi => by
    have hlt : i < cs.length := by omega
    rw [drop_at cs i hlt]
    cases hx : dearB cs[i] with
    | true =>
      refine Ev.step (fun k => by rw [athanorlaw20_right.l1, if_pos (by omega), if_pos (by omega), if_pos (by omega), rd_nat, getD_at cs i hlt, ref02_ev, hx]) ?_
      simp only [List.any_cons, hx, Bool.true_or, Bool.not_true]
      exact Ev.now _
    | false =>
      refine Ev.step (fun k => by rw [athanorlaw20_right.l1, if_pos (by omega), if_pos (by omega), if_pos (by omega), rd_nat, getD_at cs i hlt, ref02_ev, hx, w1 i (by omega)]) ?_
      simp only [List.any_cons, hx, Bool.false_or]
      exact right_l1 cs hl d (i + 1) (by omega) (by omega)
theorem right_l0 (ws cs : List Int) (hw : ws.length ≤ 1000) (hl : cs.length ≤ 1000) : ∀ d i, ws.length - i = d → i ≤ ws.length → Ev (fun k => athanorlaw20_right.l0 k ws (ws.length : Int) (i : Int) ws cs) (!(ws.drop i).any wideB && !cs.any dearB)
  | 0, i, hd, hi => by
    obtain rfl : i = ws.length := by omega
    rw [List.drop_length]
    have q := right_l1 cs hl cs.length 0 (by omega) (by omega)
    rw [List.drop_zero] at q
    refine Ev.step (fun k => by rw [athanorlaw20_right.l0, if_neg (by omega)]) ?_
    simpa using q
  | d + 1, i, hd, hi => by
    have hlt : i < ws.length := by omega
    rw [drop_at ws i hlt]
    cases hx : wideB ws[i] with
    | true =>
      have hx' := hx
      unfold wideB at hx'
      have hx2 := of_decide_eq_true hx'
      simp only [List.any_cons, hx, Bool.true_or, Bool.not_true, Bool.false_and]
      by_cases h1 : ws[i] < 1
      · exact Ev.step (fun k => by rw [athanorlaw20_right.l0, if_pos (by omega), if_pos (by omega), if_pos (by omega), rd_nat, getD_at ws i hlt, if_pos h1]) (Ev.now _)
      · exact Ev.step (fun k => by rw [athanorlaw20_right.l0, if_pos (by omega), if_pos (by omega), if_pos (by omega), rd_nat, getD_at ws i hlt, if_neg h1, if_pos (by omega)]) (Ev.now _)
    | false =>
      have hx' := hx
      unfold wideB at hx'
      have hx2 := of_decide_eq_false hx'
      simp only [List.any_cons, hx, Bool.false_or]
      refine Ev.step (fun k => by rw [athanorlaw20_right.l0, if_pos (by omega), if_pos (by omega), if_pos (by omega), rd_nat, getD_at ws i hlt, if_neg (by omega), if_neg (by omega), w1 i (by omega)]) ?_
      exact right_l0 ws cs hw hl d (i + 1) (by omega) (by omega)
theorem right_ev (ws cs : List Int) : Ev (fun k => athanorlaw20_right.f k ws cs) (rightB ws cs) := by
  unfold athanorlaw20_right.f rightB
  by_cases h1 : (cs.length : Int) < 1
  · rw [decide_eq_false (by omega)]
    refine Ev.congr (fun k => by rw [if_pos h1]) ?_
    refine Ev.step (fun k => by rw [athanorlaw20_right.j0, if_pos rfl]) ?_
    exact Ev.now _
  by_cases h2 : (cs.length : Int) > 64
  · rw [decide_eq_false (by omega)]
    refine Ev.congr (fun k => by rw [if_neg h1, if_pos h2]) ?_
    refine Ev.step (fun k => by rw [athanorlaw20_right.j0, if_pos rfl]) ?_
    exact Ev.now _
  have hw : wrap64 ((cs.length : Int) + 1) = (cs.length : Int) + 1 := wr64 (by omega) (by omega)
  by_cases h3 : ws.length = cs.length + 1
  · have hb : ((ws.length : Int) != (cs.length : Int) + 1) = false := by simp; omega
    rw [decide_eq_true (by omega)]
    refine Ev.congr (fun k => by rw [if_neg h1, if_neg h2, hw, hb]) ?_
    refine Ev.step (fun k => by rw [athanorlaw20_right.j0, if_neg (by decide)]) ?_
    have q := right_l0 ws cs (by omega) (by omega) ws.length 0 (by omega) (by omega)
    simpa using q
  · have hb : ((ws.length : Int) != (cs.length : Int) + 1) = true := by simp; omega
    rw [decide_eq_false (by omega)]
    refine Ev.congr (fun k => by rw [if_neg h1, if_neg h2, hw, hb]) ?_
    refine Ev.step (fun k => by rw [athanorlaw20_right.j0, if_pos rfl]) ?_
    exact Ev.now _
theorem sumC_le {cs : List Int} (M : Int) (h : ∀ i, cs.getD i 0 ≤ M) (l : Nat) : ∀ n : Nat, sumC cs l n ≤ (n : Int) * M
  | 0 => by simp [sumC]
  | n + 1 => by
    have := sumC_le M h l n
    have := h (l + n)
    show sumC cs l n + cs.getD (l + n) 0 ≤ _
    have e : ((n + 1 : Nat) : Int) * M = (n : Int) * M + M := by rw [Int.natCast_add, Int.add_mul]; simp
    omega
theorem sumC_step (cs : List Int) (i : Nat) : sumC cs 0 i + cs.getD i 0 = sumC cs 0 (i + 1) := by
  show _ = sumC cs 0 i + cs.getD (0 + i) 0
  rw [Nat.zero_add]
theorem cs_tot {ws cs : List Int} (h : Rt ws cs) (i : Nat) (hi : i ≤ 64) : 0 ≤ sumC cs 0 i ∧ sumC cs 0 i ≤ 70368744177664 := by
  have h1 := sumC_le 1099511627776 (fun i => (cs_bd h i).2) 0 i
  have h2 := sumC_nn (fun i => (cs_bd h i).1) 0 i
  omega
theorem ws_tot {ws cs : List Int} (h : Rt ws cs) (i : Nat) (hi : i ≤ 65) : 0 ≤ sumC ws 0 i ∧ sumC ws 0 i ≤ 4259840 := by
  have h1 := sumC_le 65536 (fun i => (ws_bd h i).2) 0 i
  have h2 := sumC_nn (fun i => (ws_bd h i).1) 0 i
  omega
theorem total_l0 {ws cs : List Int} (h : Rt ws cs) : ∀ d i, cs.length - i = d → i ≤ cs.length → Ev (fun k => athanorlaw20_total.l0 k (sumC cs 0 i) cs (cs.length : Int) (i : Int)) (sumC cs 0 cs.length)
  | 0, i, hd, hi => by
    obtain rfl : i = cs.length := by omega
    exact Ev.step (fun k => by rw [athanorlaw20_total.l0, if_neg (by omega)]) (Ev.now _)
  | d + 1, i, hd, hi => by
    have hhi := h.hi
    have hb := cs_tot h (i + 1) (by omega)
    rw [← sumC_step] at hb
    refine Ev.step (fun k => by rw [athanorlaw20_total.l0, if_pos (by omega), if_pos (by omega), if_pos (by omega), rd_nat, wr64 (by omega) (by omega), w1 i (by omega), sumC_step]) ?_
    exact total_l0 h d (i + 1) (by omega) (by omega)
theorem total_ev {ws cs : List Int} (h : Rt ws cs) : Ev (fun k => athanorlaw20_total.f k ws cs) (sumC cs 0 cs.length) := total_l0 h cs.length 0 (by omega) (by omega)
theorem ctotal_l0 {ws cs : List Int} (h : Rt ws cs) : ∀ d i, cs.length - i = d → i ≤ cs.length → Ev (fun k => chain_Chain_Total.l0 k (sumC cs 0 i) cs (cs.length : Int) (i : Int)) (sumC cs 0 cs.length)
  | 0, i, hd, hi => by
    obtain rfl : i = cs.length := by omega
    exact Ev.step (fun k => by rw [chain_Chain_Total.l0, if_neg (by omega)]) (Ev.now _)
  | d + 1, i, hd, hi => by
    have hhi := h.hi
    have hb := cs_tot h (i + 1) (by omega)
    rw [← sumC_step] at hb
    refine Ev.step (fun k => by rw [chain_Chain_Total.l0, if_pos (by omega), if_pos (by omega), if_pos (by omega), rd_nat, wr64 (by omega) (by omega), w1 i (by omega), sumC_step]) ?_
    exact ctotal_l0 h d (i + 1) (by omega) (by omega)
theorem awake_ok : athanorlaw20_awake.f 40 = some true := by decide +kernel
theorem awake_ev : Ev (fun k => athanorlaw20_awake.f k) true := Ev.of (athanorlaw20_awake.mono) awake_ok
theorem right_of_rt {ws cs : List Int} (h : Rt ws cs) : rightB ws cs = true := by
  unfold rightB
  rw [decide_eq_true ⟨h.lo, h.hi, h.len⟩]
  have h1 : ws.any wideB = false := List.any_eq_false.2 fun x hx => by
    have := h.wide x hx
    simp [wideB]
    omega
  have h2 : cs.any dearB = false := List.any_eq_false.2 fun x hx => by
    have := h.dear x hx
    simp [dearB]
    omega
  rw [h1, h2]
  rfl
theorem sol_in {ws cs : List Int} (h : Rt ws cs) {m : Int} (h0 : 0 ≤ m) (h1 : m ≤ 4096) : solE ws cs m = (if (ans ws cs 0 cs.length m).1 = -1 then 26 else 0) ∧ (solA ws cs m).1 = (if (ans ws cs 0 cs.length m).1 = -1 then 0 else (ans ws cs 0 cs.length m).1) := by
  have hr := right_of_rt h
  have h2 : ¬ (m < 0 ∨ 4096 < m) := by omega
  have h3 : ¬ rightB ws cs = false := by rw [hr]; decide
  constructor
  · unfold solE
    rw [if_neg h3, if_neg h2]
  · unfold solA
    rw [if_neg h3, if_neg h2]
    split <;> rfl
theorem Ev.true_ {g : Nat → Option Bool} (h : Ev g true) : Ev (fun k => (g k).bind fun t => some t) true := Ev.bind h (Ev.now _)
theorem least_f (ws cs : List Int) (m : Int) : chain_Chain_Least.f ws cs m = some ((solA ws cs m).1, solE ws cs m) := rfl
theorem right_f (ws cs : List Int) : chain_Chain_Right.f ws cs = some (rightB ws cs) := rfl
end Go.Proofs.Ytiejdbdbafmccaa
/- part ChPok -/
namespace Go.Proofs.Ytiejdbdbafmccaa
open Go.Proofs.Ytiejdbdbafmccaa.PCh
theorem runW_app (ws cs : List Int) (cap : Int) : ∀ (p q : List S63) (x y : Wk), runW ws cs cap p x = (y, 0) → runW ws cs cap (p ++ q) x = runW ws cs cap q y
  | [], q, x, y, h => by
    rw [runW_nil] at h
    injection h with h
    subst h
    rfl
  | i :: p, q, x, y, h => by
    rw [runW_cons] at h
    rw [List.cons_append, runW_cons]
    by_cases hd : (doW x ws cs cap i.f0 i.f1.toNat).2 = 0
    · rw [if_pos hd] at h ⊢
      exact runW_app ws cs cap p q _ y h
    · rw [if_neg hd] at h
      exact absurd (by rw [h]) hd
structure Pg (ws cs : List Int) (cap : Int) (s : St) (x : Wk) : Prop where
  run : runW ws cs cap s.2 wk0 = (x, 0)
  sv : ∀ i, s.1.getD i false = x.sv i
  len : s.1.length = 65
  ok : ∀ y ∈ s.2, instrB y.f0 y.f1 = true ∧ y.f1 ≤ (cs.length : Int)
  pk : x.pk ≤ cap
theorem Pg.app {ws cs : List Int} {cap : Int} {s : St} {x : Wk} (h : Pg ws cs cap s x) (k : Int) (id : Nat) (hm : mayB x cs.length k id = true) (hw : x.wd + moreI ws cs.length k id ≤ cap) (hi : instrB k id = true) (hn : id ≤ cs.length) (s1 : List Bool) (hl : s1.length = 65) (hs : ∀ i, s1.getD i false = (effW (addW x (moreI ws cs.length k id)) ws cs k id).sv i) :
    Pg ws cs cap (s1, s.2 ++ [⟨k, (id : Int)⟩]) (effW (addW x (moreI ws cs.length k id)) ws cs k id) := by
  refine ⟨?_, hs, hl, fun y hy => ?_, ?_⟩
  · show runW ws cs cap (s.2 ++ [⟨k, (id : Int)⟩]) wk0 = _
    rw [runW_app ws cs cap s.2 _ wk0 x h.run, runW_cons]
    have e : doW x ws cs cap k ((id : Int)).toNat = (effW (addW x (moreI ws cs.length k id)) ws cs k id, 0) := by
      rw [Int.toNat_natCast]
      unfold doW
      rw [if_neg (by rw [hm]; decide), if_neg (by omega)]
    rw [e, if_pos rfl, runW_nil]
  · simp only [List.mem_append, List.mem_singleton] at hy
    rcases hy with hy | rfl
    · exact h.ok y hy
    · exact ⟨hi, by simp only; omega⟩
  · have hp : ∀ z : Wk, (effW z ws cs k id).pk = z.pk := fun z => by unfold effW; (repeat' split) <;> rfl
    rw [hp]
    have := h.pk
    simp only [addW]
    omega
structure P7 (x : Wk) (th gr : Nat → Bool) (dn wd ct : Int) (e : Bool) : Prop where
  th : ∀ i, x.th i = th i
  gr : ∀ i, x.gr i = gr i
  dn : x.dn = dn
  wd : x.wd = wd
  ct : x.ct = ct
  em : x.em = e
  sd : x.sd = e
theorem rdy_of {x : Wk} {id : Nat} (h : id = 1 ∨ x.th (id - 1) = true) : rdyB x id = true := by
  unfold rdyB
  rcases h with h | h
  · rw [decide_eq_true h, Bool.true_or]
  · rw [h, Bool.or_true]
theorem set_sv (l : List Bool) (id : Nat) (h : id < l.length) (f : Nat → Bool) (hf : ∀ i, l.getD i false = f i) : ∀ i, (l.set id true).getD i false = upB f id true i := fun i => by
  unfold upB
  by_cases he : i = id
  · subst he
    simp [h]
  · rw [if_neg he, ← hf i]
    simp [List.getD, List.getElem?_set, Ne.symm he]
section
variable {ws cs : List Int} {cap : Int} {s : St} {x : Wk} {th gr : Nat → Bool} {dn wd ct : Int} {e : Bool}
theorem Pg.reck (ht : Rt ws cs) (h : Pg ws cs cap s x) (h7 : P7 x th gr dn wd ct e) (id : Nat) (h1 : 1 ≤ id) (h2 : id ≤ cs.length) (hth : th id = false) (hr : id = 1 ∨ th (id - 1) = true) (hw : wd + ws.getD id 0 ≤ cap) :
    ∃ x', Pg ws cs cap (reckS s id) x' ∧ P7 x' (upB th id true) gr dn (wd + ws.getD id 0) (ct + cs.getD (id - 1) 0) e := by
  have hhi := ht.hi
  have hrd : rdyB x id = true := rdy_of (by rw [h7.th]; exact hr)
  have hth' : x.th id = false := by rw [h7.th]; exact hth
  have hsv := h.sv id
  have hl := h.len
  have hi : ∀ k : Int, k = 1 ∨ k = 2 → instrB k (id : Int) = true := fun k hk => by
    unfold instrB
    rw [if_neg (by omega), if_pos (by omega)]
    exact decide_eq_true (by omega)
  have hmo : ∀ k : Int, k = 1 ∨ k = 2 → moreI ws cs.length k id = ws.getD id 0 := fun k hk => by
    unfold moreI
    rcases hk with rfl | rfl <;> simp
  have hef : ∀ k : Int, k = 1 ∨ k = 2 → effW (addW x (ws.getD id 0)) ws cs k id = { addW x (ws.getD id 0) with th := upB x.th id true, sv := upB x.sv id true, ct := x.ct + cs.getD (id - 1) 0 } := fun k hk => by
    unfold effW
    rw [if_pos hk]
    rfl
  have fin : ∀ k : Int, k = 1 ∨ k = 2 → mayB x cs.length k id = true → reckS s id = (s.1.set id true, s.2 ++ [⟨k, (id : Int)⟩]) → ∃ x', Pg ws cs cap (reckS s id) x' ∧ P7 x' (upB th id true) gr dn (wd + ws.getD id 0) (ct + cs.getD (id - 1) 0) e := fun k hk hm hs => by
    refine ⟨_, by rw [hs]; exact h.app k id hm (by rw [hmo k hk, h7.wd]; exact hw) (hi k hk) h2 _ (by simpa using hl) (by rw [hmo k hk, hef k hk]; exact set_sv s.1 id (by omega) x.sv h.sv), ?_⟩
    rw [hmo k hk, hef k hk]
    refine ⟨fun i => ?_, h7.gr, h7.dn, ?_, ?_, h7.em, h7.sd⟩
    · simp only [upB, h7.th]
    · simp only [addW, h7.wd]
    · simp only [h7.ct]
  cases hb : s.1.getD id false with
  | true =>
    refine fin 2 (Or.inr rfl) ?_ (by unfold reckS reckP; rw [hb]; rfl)
    unfold mayB
    rw [if_neg (by decide), if_pos rfl, ← hsv, hb, hth', hrd]
    rfl
  | false =>
    refine fin 1 (Or.inl rfl) ?_ (by unfold reckS reckP; rw [hb]; rfl)
    unfold mayB
    rw [if_pos rfl, ← hsv, hb, hrd]
    rfl
theorem Pg.free (h : Pg ws cs cap s x) (h7 : P7 x th gr dn wd ct e) (id : Nat) (h1 : 1 ≤ id) (h2 : id ≤ cs.length) (h3 : cs.length ≤ 64) (hth : th id = true) (hw : wd ≤ cap) :
    ∃ x', Pg ws cs cap (doS s 3 (id : Int)) x' ∧ P7 x' (upB th id false) gr dn (wd - ws.getD id 0) ct e := by
  have hm : mayB x cs.length 3 id = true := by
    unfold mayB
    rw [if_neg (by decide), if_neg (by decide), if_pos rfl, h7.th]
    exact hth
  have hmo : moreI ws cs.length 3 id = 0 := rfl
  have hef : effW (addW x 0) ws cs 3 id = { addW x 0 with th := upB x.th id false, wd := x.wd + 0 - ws.getD id 0 } := rfl
  refine ⟨_, h.app 3 id hm (by rw [hmo, h7.wd]; omega) (by unfold instrB; rw [if_neg (by decide), if_pos (by decide)]; exact decide_eq_true (by omega)) h2 s.1 h.len (by rw [hmo, hef]; exact h.sv), ?_⟩
  rw [hmo, hef]
  refine ⟨fun i => ?_, h7.gr, h7.dn, ?_, h7.ct, h7.em, h7.sd⟩
  · simp only [upB, h7.th]
  · simp only [h7.wd]; omega
theorem Pg.back (h : Pg ws cs cap s x) (h7 : P7 x th gr dn wd ct e) (id : Nat) (h1 : 1 ≤ id) (h2 : id ≤ cs.length) (h3 : cs.length ≤ 64) (hg : gr id = true) (hr : id = 1 ∨ th (id - 1) = true) (hd : (id : Int) = (cs.length : Int) - dn) (hw : wd + oP ws (id - 1) ≤ cap) :
    ∃ x', Pg ws cs cap (doS s 6 (id : Int)) x' ∧ P7 x' th (upB (upB gr (id - 1) (decide (1 < id))) id false) (dn + 1) (wd + oP ws (id - 1) - ws.getD id 0) ct e := by
  have hrd : rdyB x id = true := rdy_of (by rw [h7.th]; exact hr)
  have hm : mayB x cs.length 6 id = true := by
    unfold mayB
    rw [if_neg (by decide), if_neg (by decide), if_neg (by decide), if_neg (by decide), if_neg (by decide), h7.gr, hg, hrd, h7.dn]
    simp [hd]
  have hmo : moreI ws cs.length 6 id = oP ws (id - 1) := by
    unfold moreI oP
    rw [if_neg (by decide), if_neg (by decide), if_neg (by decide), if_pos rfl]
    by_cases hi : 1 < id
    · rw [if_pos hi, if_neg (by omega)]
    · rw [if_neg hi, if_pos (by omega)]
  have hef : effW (addW x (oP ws (id - 1))) ws cs 6 id = { addW x (oP ws (id - 1)) with gr := upB (upB x.gr (id - 1) (decide (1 < id))) id false, wd := x.wd + oP ws (id - 1) - ws.getD id 0, dn := x.dn + 1 } := rfl
  refine ⟨_, h.app 6 id hm (by rw [hmo, h7.wd]; exact hw) (by unfold instrB; rw [if_neg (by decide), if_pos (by decide)]; exact decide_eq_true (by omega)) h2 s.1 h.len (by rw [hmo, hef]; exact h.sv), ?_⟩
  rw [hmo, hef]
  refine ⟨h7.th, fun i => ?_, ?_, ?_, h7.ct, h7.em, h7.sd⟩
  · simp only [upB, h7.gr]
  · simp only [h7.dn]
  · simp only [h7.wd]
end
theorem Pg.loss {ws cs : List Int} {cap : Int} {s : St} {x : Wk} {th gr : Nat → Bool} {dn wd ct : Int} (ht : Rt ws cs) (h : Pg ws cs cap s x) (h7 : P7 x th gr dn wd ct false) (hth : th cs.length = true) (hw : wd ≤ cap) :
    ∃ x', Pg ws cs cap (doS (doS (doS s 4 0) 3 (cs.length : Int)) 5 0) x' ∧ P7 x' (upB th cs.length false) (upB gr cs.length true) dn wd ct true := by
  have hlo := ht.lo
  have hhi := ht.hi
  have hm : mayB x cs.length 4 0 = true := by
    unfold mayB
    rw [if_neg (by decide), if_neg (by decide), if_neg (by decide), if_pos rfl, h7.th, hth, h7.em]
    rfl
  have h1 : Pg ws cs cap (doS s 4 0) { addW x 0 with em := true } := h.app 4 0 hm (by show x.wd + 0 ≤ cap; rw [h7.wd]; omega) (by decide) (by omega) s.1 h.len h.sv
  have hm2 : mayB { addW x 0 with em := true } cs.length 3 cs.length = true := by
    unfold mayB
    rw [if_neg (by decide), if_neg (by decide), if_pos rfl]
    exact (h7.th _).trans hth
  have h2 : Pg ws cs cap (doS (doS s 4 0) 3 (cs.length : Int)) { addW (addW x 0) 0 with em := true, th := upB x.th cs.length false, wd := x.wd + 0 + 0 - ws.getD cs.length 0 } := h1.app 3 cs.length hm2 (by show x.wd + 0 + 0 ≤ cap; rw [h7.wd]; omega) (by unfold instrB; rw [if_neg (by decide), if_pos (by decide)]; exact decide_eq_true (by omega)) (Nat.le_refl _) s.1 h.len h.sv
  have hm3 : mayB { addW (addW x 0) 0 with em := true, th := upB x.th cs.length false, wd := x.wd + 0 + 0 - ws.getD cs.length 0 } cs.length 5 0 = true := by
    unfold mayB
    rw [if_neg (by decide), if_neg (by decide), if_neg (by decide), if_neg (by decide), if_pos rfl]
    show (!x.sd) = true
    rw [h7.sd]
    rfl
  have h3 := h2.app 5 0 hm3 (by show x.wd + 0 + 0 - ws.getD cs.length 0 + ws.getD cs.length 0 ≤ cap; rw [h7.wd]; omega) (by decide) (by omega) s.1 h.len h.sv
  refine ⟨_, h3, fun i => ?_, fun i => ?_, h7.dn, ?_, h7.ct, rfl, rfl⟩
  · show upB x.th cs.length false i = _
    simp only [upB, h7.th]
  · show upB x.gr cs.length true i = _
    simp only [upB, h7.gr]
  · show x.wd + 0 + 0 - ws.getD cs.length 0 + ws.getD cs.length 0 = wd
    rw [h7.wd]
    omega
theorem P7.to {x : Wk} {th gr th' gr' : Nat → Bool} {dn wd ct dn' wd' ct' : Int} {e : Bool} (h : P7 x th gr dn wd ct e) (h1 : ∀ i, th i = th' i) (h2 : ∀ i, gr i = gr' i) (h3 : dn = dn') (h4 : wd = wd') (h5 : ct = ct') : P7 x th' gr' dn' wd' ct' e :=
  ⟨fun i => (h.th i).trans (h1 i), fun i => (h.gr i).trans (h2 i), h.dn.trans h3, h.wd.trans h4, h.ct.trans h5, h.em, h.sd⟩
theorem to_ok {ws cs : List Int} {cap : Int} (ht : Rt ws cs) {th gr : Nat → Bool} {dn wd ct : Int} {e : Bool} {l r k : Nat} {m : Int} (hk : k < r) (hr : r ≤ cs.length) (hl : l = 0 ∨ th l = true) (hth : ∀ i, l < i → th i = false) (hcap : wd - gP ws cs.length r + m ≤ cap) (hs : ∀ i, l ≤ i → i < k → needStep ws cs l r i ≤ m) :
    ∀ (d i : Nat) (s : St) (x : Wk), d = k - i → l ≤ i → i ≤ k → Pg ws cs cap s x → P7 x (if l < i then upB th i true else th) gr dn (wd + if l < i then ws.getD i 0 else 0) (ct + sumC cs l (i - l)) e →
    ∃ x', Pg ws cs cap (toS l d i s) x' ∧ P7 x' (if l < k then upB th k true else th) gr dn (wd + if l < k then ws.getD k 0 else 0) (ct + sumC cs l (k - l)) e := by
  intro d
  have hhi := ht.hi
  induction d with
  | zero =>
    intro i s x hd h1 h2 hP h7
    obtain rfl : i = k := by omega
    exact ⟨x, hP, h7⟩
  | succ d ih =>
    intro i s x hd h1 h2 hP h7
    have hst := hs i h1 (by omega)
    have hwi := ws_bd ht i
    have hwj := ws_bd ht (i + 1)
    have hct : ct + sumC cs l (i - l) + cs.getD (i + 1 - 1) 0 = ct + sumC cs l (i + 1 - l) := by
      rw [show i + 1 - l = (i - l) + 1 from by omega]
      show _ = ct + (sumC cs l (i - l) + cs.getD (l + (i - l)) 0)
      rw [show l + (i - l) = i from by omega, Nat.add_sub_cancel]
      omega
    have hgp := gP_bd ht r
    by_cases hli : l < i
    · rw [if_pos hli, if_pos hli] at h7
      unfold needStep at hst
      rw [if_pos hli] at hst
      obtain ⟨x1, p1, q1⟩ := hP.reck ht h7 (i + 1) (by omega) (by omega) (by unfold upB; rw [if_neg (by omega)]; exact hth _ (by omega)) (Or.inr (by unfold upB; rw [if_pos (by omega)])) (by omega)
      obtain ⟨x2, p2, q2⟩ := p1.free q1 i (by omega) (by omega) hhi (by unfold upB; rw [if_neg (by omega), if_pos rfl]) (by omega)
      unfold toS
      rw [if_pos hli]
      refine ih (i + 1) _ x2 (by omega) (by omega) (by omega) p2 (q2.to (fun j => ?_) (fun _ => rfl) rfl ?_ hct)
      · rw [if_pos (by omega)]
        unfold upB
        by_cases e1 : j = i
        · subst e1
          rw [if_pos rfl, if_neg (by omega)]
          exact (hth j hli).symm
        · rw [if_neg e1, if_neg e1]
      · rw [if_pos (by omega)]
        omega
    · obtain rfl : i = l := by omega
      rw [if_neg hli, if_neg hli] at h7
      unfold needStep at hst
      rw [if_neg hli] at hst
      obtain ⟨x1, p1, q1⟩ := hP.reck ht h7 (i + 1) (by omega) (by omega) (hth _ (by omega)) (by rcases hl with hl | hl; exact Or.inl (by omega); exact Or.inr hl) (by omega)
      unfold toS
      rw [if_neg hli]
      refine ih (i + 1) _ x1 (by omega) (by omega) (by omega) p1 (q1.to (fun j => ?_) (fun _ => rfl) rfl ?_ hct)
      · rw [if_pos (by omega)]
      · rw [if_pos (by omega)]
        omega
theorem back_ok {ws cs : List Int} {cap : Int} (ht : Rt ws cs) : ∀ (f l r : Nat) (m : Int) (s : St) (x : Wk) (th : Nat → Bool) (wd ct : Int), r - l ≤ f → l < r → r ≤ cs.length → (ans ws cs l r m).1 ≠ -1 → Pg ws cs cap s x → P7 x th (fun i => decide (r < cs.length ∧ i = r)) ((cs.length : Int) - r) wd ct (decide (r < cs.length)) → (l = 0 ∨ th l = true) → (∀ i, l < i → th i = false) → wd - gP ws cs.length r + m ≤ cap →
    ∃ x', Pg ws cs cap (backF ws cs f l r m s) x' ∧ P7 x' th (fun i => decide (0 < l ∧ i = l)) ((cs.length : Int) - l) (wd - gP ws cs.length r + oP ws l) (ct + (ans ws cs l r m).1) true
  | 0, _, _, _, _, _, _, _, _, h1, h2, _, _, _, _, _, _, _ => by omega
  | f + 1, l, r, m, s, x, th, wd, ct, hf, hl, hr, ha, hP, h7, hl0, hth, hcap => by
    have hhi := ht.hi
    have hgp := gP_bd ht r
    have hop := oP_bd ht l
    by_cases he : r = l + 1
    · rw [backF_leaf he]
      rw [ans_one he] at ha ⊢
      unfold oneP at ha ⊢
      have hn : ¬ m < needOne ws cs l r := fun hh => ha (by rw [if_pos hh])
      rw [if_neg hn]
      simp only
      unfold needOne at hn
      unfold leafS costOne
      have hlr : r - 1 = l := by omega
      by_cases hrn : r = cs.length
      · rw [if_pos hrn] at hn ⊢
        have hg0 : gP ws cs.length r = 0 := by unfold gP; rw [if_pos hrn]
        rw [hg0] at hcap ⊢
        rw [if_pos hrn]
        have hd : decide (r < cs.length) = false := decide_eq_false (by omega)
        rw [hd] at h7
        have hwr := ws_bd ht r
        obtain ⟨x1, p1, q1⟩ := hP.reck ht h7 r (by omega) hr (hth r hl) (by rw [hlr]; rcases hl0 with hl0 | hl0; exact Or.inl (by omega); exact Or.inr hl0) (by omega)
        rw [hrn] at p1 q1
        obtain ⟨x2, p2, q2⟩ := p1.loss ht q1 (by simp [upB]) (by rw [← hrn]; omega)
        obtain ⟨x3, p3, q3⟩ := p2.back q2 cs.length ht.lo (Nat.le_refl _) hhi (by simp [upB]) (by
          rcases hl0 with hl0 | hl0
          · exact Or.inl (by omega)
          · right
            rw [← hrn, hlr]
            unfold upB
            rw [if_neg (by omega), if_neg (by omega)]
            exact hl0) (by omega) (by rw [← hrn, hlr]; omega)
        rw [hrn]
        refine ⟨x3, p3, q3.to (fun i => ?_) (fun i => ?_) (by omega) ?_ ?_⟩
        · unfold upB
          by_cases e1 : i = cs.length
          · rw [if_pos e1, e1]
            exact (hth _ (by omega)).symm
          · rw [if_neg e1, if_neg e1]
        · unfold upB
          rw [show cs.length - 1 = l from by omega]
          by_cases e1 : i = cs.length
          · rw [if_pos e1]
            exact (decide_eq_false (by omega)).symm
          · rw [if_neg e1]
            by_cases e2 : i = l
            · rw [if_pos e2]
              rw [Bool.eq_iff_iff]
              simp only [decide_eq_true_eq]
              omega
            · rw [if_neg e2]
              simp only
              rw [if_neg e1, decide_eq_false (by omega), decide_eq_false (by omega)]
        · rw [← hrn, hlr]
          omega
        · rfl
      · have hrl : r < cs.length := by omega
        rw [if_neg hrn] at hn ⊢
        rw [if_neg hrn]
        have hd : decide (r < cs.length) = true := decide_eq_true hrl
        rw [hd] at h7
        obtain ⟨x1, p1, q1⟩ := hP.back h7 r (by omega) hr hhi (by simp [hrl]) (by rw [hlr]; rcases hl0 with hl0 | hl0; exact Or.inl (by omega); exact Or.inr hl0) (by omega) (by rw [hlr]; omega)
        have hg1 : gP ws cs.length r = ws.getD r 0 := by unfold gP; rw [if_neg hrn]
        refine ⟨x1, p1, q1.to (fun i => rfl) (fun i => ?_) (by omega) ?_ (by omega)⟩
        · unfold upB
          rw [hlr]
          by_cases e1 : i = r
          · rw [if_pos e1]
            exact (decide_eq_false (by omega)).symm
          · rw [if_neg e1]
            by_cases e2 : i = l
            · rw [if_pos e2]
              rw [Bool.eq_iff_iff]
              simp only [decide_eq_true_eq]
              omega
            · rw [if_neg e2]
              simp only
              rw [decide_eq_false (by omega), decide_eq_false (by omega)]
        · rw [hlr, hg1]
          omega
    · obtain ⟨k, hc⟩ := ans_cut (by omega) ha
      have hlo := hc.lo
      have hhk := hc.hi
      rw [backF_split he hc.k2]
      obtain ⟨x1, p1, q1⟩ := to_ok ht hhk hr hl0 hth hcap hc.steps (k - l) l s x rfl (Nat.le_refl _) (by omega) hP (h7.to (fun i => by rw [if_neg (by omega)]) (fun _ => rfl) rfl (by rw [if_neg (by omega)]; omega) (by rw [Nat.sub_self]; show ct = ct + 0; omega))
      rw [if_pos hlo, if_pos hlo] at q1
      obtain ⟨x2, p2, q2⟩ := back_ok ht f k r (m - ws.getD k 0) _ x1 (upB th k true) (wd + ws.getD k 0) (ct + sumC cs l (k - l)) (by omega) hhk hr hc.fa p1 q1 (Or.inr (by simp [upB])) (fun i hi => by unfold upB; rw [if_neg (by omega)]; exact hth i (by omega)) (by omega)
      have hok : oP ws k = ws.getD k 0 := by unfold oP; rw [if_neg (by omega)]
      have hgk : gP ws cs.length k = ws.getD k 0 := by unfold gP; rw [if_neg (by omega)]
      have hwk := ws_bd ht k
      have hst := hc.steps (k - 1) (by omega) (by omega)
      have hst2 : ws.getD k 0 + gP ws cs.length r ≤ m := by
        unfold needStep at hst
        rw [show k - 1 + 1 = k from by omega] at hst
        have := ws_bd ht (k - 1)
        split at hst <;> omega
      have hwcap : wd + ws.getD k 0 - gP ws cs.length r + oP ws k ≤ cap := by
        have := ans_need ht (r - k) k r (m - ws.getD k 0) (Nat.le_refl _) hhk hr hc.fa
        omega
      obtain ⟨x3, p3, q3⟩ := p2.free q2 k (by omega) (by omega) hhi (by simp [upB]) hwcap
      obtain ⟨x4, p4, q4⟩ := back_ok ht f l k m _ x3 th (wd + ws.getD k 0 - gP ws cs.length r + oP ws k - ws.getD k 0) (ct + sumC cs l (k - l) + (ans ws cs k r (m - ws.getD k 0)).1) (by omega) hlo (by omega) hc.fb p3 (by
        have hd : decide (k < cs.length) = true := decide_eq_true (by omega)
        rw [hd]
        refine q3.to (fun i => ?_) (fun i => ?_) rfl rfl rfl
        · unfold upB
          by_cases e1 : i = k
          · rw [if_pos e1, e1]
            exact (hth k hlo).symm
          · rw [if_neg e1, if_neg e1]
        · rw [Bool.eq_iff_iff]
          simp only [decide_eq_true_eq]
          omega) hl0 hth (by rw [hgk]; omega)
      refine ⟨x4, p4, q4.to (fun _ => rfl) (fun _ => rfl) rfl (by omega) (by rw [hc.cost]; omega)⟩
end Go.Proofs.Ytiejdbdbafmccaa
/- part PChx8 -/
namespace Go.Proofs.Ytiejdbdbafmccaa.PCh
open Go.RowKit Go.Proofs.YtiejdbdbafmccaaW.PrintWords Go.Proofs.YtiejdbdbafmccaaW.PrintLast Go.Proofs.YtiejdbdbafmccaaW.PrintMore
attribute [local go_sem] max2_int min2_int max_two min_two max_three min_three max_four min_four
set_option linter.unusedVariables false
set_option linter.unusedSimpArgs false
def athanorref18_Has.l0 : Nat → List Int → Int → Int → Option (Bool)
  | 0, _, _, _ => none
  | k + 1, x0, x1, x5 => if x5 < (x0.length : Int) then (if 0 ≤ x5 then (if (rd x0 x5) = x1 then (some true) else (athanorref18_Has.l0 k x0 x1 (wrap64 (x5 + 1)))) else (none)) else (some false)
def athanorref18_Has.f (k : Nat) (l0 : List Int) (a1 : Int) : Option (Bool) := athanorref18_Has.l0 k l0 a1 0
theorem athanorref18_Has.mono_l : ∀ k, (∀ y0 y1 y2, LeO (athanorref18_Has.l0 k y0 y1 y2) (athanorref18_Has.l0 (k + 1) y0 y1 y2))
  | 0 => fun _ _ _ r h => by simp [athanorref18_Has.l0] at h
  | k + 1 => by
    have ih0 := athanorref18_Has.mono_l k
    · intro y0 y1 y2
      unfold athanorref18_Has.l0
      repeat' first
      | (with_reducible exact ih0 _ _ _)
      | (with_reducible exact LeO.refl _)
      | (with_reducible exact LeO.none _)
      | (with_reducible refine LeO.ite ?_ ?_)
      | (with_reducible refine LeO.bind ?_ (fun _ => ?_))
      | exact ih0 _ _ _
      | exact LeO.none _
      | refine LeO.ite ?_ ?_
      | refine LeO.bind ?_ (fun _ => ?_)
theorem athanorref18_Has.mono : ∀ a0 a1 k, LeO (athanorref18_Has.f k a0 a1) (athanorref18_Has.f (k + 1) a0 a1) := by
  intro a0 a1 k
  have ih0 := athanorref18_Has.mono_l k
  unfold athanorref18_Has.f
  repeat' first
      | (with_reducible exact ih0 _ _ _)
      | (with_reducible exact LeO.refl _)
      | (with_reducible exact LeO.none _)
      | (with_reducible refine LeO.ite ?_ ?_)
      | (with_reducible refine LeO.bind ?_ (fun _ => ?_))
      | exact ih0 _ _ _
      | exact LeO.none _
      | refine LeO.ite ?_ ?_
      | refine LeO.bind ?_ (fun _ => ?_)
set_option maxHeartbeats 8000000 in
set_option maxRecDepth 100000 in
theorem athanorref18_Has.calls (k : Nat) (A0 : Option Addr) (c0 : Nat) (l0 : List Int) (a1 : Int) (r : Bool) (w : World) (hr0 : Kd.C (Kd.int .i64) w A0 l0.length l0) (hc0 : l0.length ≤ c0) (h : athanorref18_Has.f k l0 a1 = some r) :
    Calls Try.prog 35 #[.slice A0 l0.length c0, .int .i64 a1] w fun e w' => e = .returned (.bool r) ∧ Drawn0 w w' := by
  have HR0 := Aside0.mk hr0
  have HC0 := Aside0.mk hc0
  clear hr0 hc0
  have H : (athanorref18_Has.l0 k l0 a1 0) = some r := h
  clear h
  have H' := Aside0.mk H
  clear H
  go_enter Try.func35, Try.ntmps35
  go_wp2
  go_loopg [5] k (fun kq v5 w' => ∃ (x5_1 : Int), v5 = .int .i64 x5_1 ∧ Aside0 (athanorref18_Has.l0 kq l0 a1 x5_1 = some r) ∧ Aside0 (kq ≤ k) ∧ Drawn0 w w')
  case atStart => exact ⟨(0), (by first | rfl | (simp; done) | (simp [*]; done)), H', ⟨Nat.le_refl _⟩, by repeat (first | exact Drawn0.refl _ | apply Drawn0.step)⟩
  case round =>
    clear H'
    try clear p2
    obtain ⟨x5_1, rfl, HA, HK1, ⟨m1, rfl⟩⟩ := hrel
    cases gk with
    | zero => exact absurd HA.out (by simp [athanorref18_Has.l0])
    | succ k1 =>
      have H := HA.out
      clear HA
      simp only [athanorref18_Has.l0] at H
      by_cases c3 : x5_1 < (l0.length : Int)
      · rw [if_pos c3] at H
        have c3b0 : decide (x5_1 < (l0.length : Int)) = true := decide_eq_true c3
        clear c3
        by_cases c4 : 0 ≤ x5_1
        · rw [if_pos c4] at H
          have c4b0 : decide (0 ≤ x5_1) = true := decide_eq_true c4
          clear c4
          by_cases c5 : (rd l0 x5_1) = a1
          · rw [if_pos c5] at H
            have c5b0 : ((rd l0 x5_1) == a1) = true := beq_iff_eq.mpr c5
            have c5b1 : ((rd l0 x5_1) != a1) = false := bne_eq_false_iff_eq.mpr c5
            clear c5
            obtain rfl := Option.some.inj H
            have p137 : 0 ≤ (x5_1 : Int) := of_decide_eq_true (by first | (with_reducible assumption) | assumption)
            have q137 : x5_1 < (l0.length : Int) := of_decide_eq_true (by first | (with_reducible assumption) | assumption)
            obtain ⟨ad137, e137, hx137_0⟩ := Kd.at_int HR0.out x5_1 p137 q137
            cases e137
            replace p137 := eq_true p137
            replace q137 := eq_true q137
            go_wp2
            go_ret
            exact ⟨by first | rfl | (simp; done) | (simp [*]; done), by repeat (first | exact Drawn0.refl _ | apply Drawn0.step)⟩
          · rw [if_neg c5] at H
            have c5b0 : ((rd l0 x5_1) == a1) = false := beq_eq_false_iff_ne.mpr c5
            have c5b1 : ((rd l0 x5_1) != a1) = true := bne_iff_ne.mpr c5
            have H' := Aside0.mk H
            clear H
            have p137 : 0 ≤ (x5_1 : Int) := of_decide_eq_true (by first | (with_reducible assumption) | assumption)
            have q137 : x5_1 < (l0.length : Int) := of_decide_eq_true (by first | (with_reducible assumption) | assumption)
            obtain ⟨ad137, e137, hx137_0⟩ := Kd.at_int HR0.out x5_1 p137 q137
            cases e137
            replace p137 := eq_true p137
            replace q137 := eq_true q137
            go_wp2
            go_roundg k1
            case measure => have := HK1.out; omega
            case rel => exact ⟨(wrap64 (x5_1 + 1)), (by first | rfl | (simp; done) | (simp [*]; done)), H', ⟨by have := HK1.out; omega⟩, by repeat (first | exact Drawn0.refl _ | apply Drawn0.step)⟩
        · rw [if_neg c4] at H
          exact absurd H (by simp)
      · rw [if_neg c3] at H
        have c3b0 : decide (x5_1 < (l0.length : Int)) = false := decide_eq_false c3
        clear c3
        obtain rfl := Option.some.inj H
        go_wp2
        go_ret
        exact ⟨by first | rfl | (simp; done) | (simp [*]; done), by repeat (first | exact Drawn0.refl _ | apply Drawn0.step)⟩
end Go.Proofs.Ytiejdbdbafmccaa.PCh
/- part PChx9 -/
namespace Go.Proofs.Ytiejdbdbafmccaa.PCh
open Go.RowKit Go.Proofs.YtiejdbdbafmccaaW.PrintWords Go.Proofs.YtiejdbdbafmccaaW.PrintLast Go.Proofs.YtiejdbdbafmccaaW.PrintMore
attribute [local go_sem] max2_int min2_int max_two min_two max_three min_three max_four min_four
set_option linter.unusedVariables false
set_option linter.unusedSimpArgs false
def athanorref20_sum.l0 : Nat → List Int → List Int → Int → Int → Option (Int)
  | 0, _, _, _, _ => none
  | k + 1, x0, x1, x5, x6 => if x6 < (x1.length : Int) then (if 0 ≤ x6 then (if 0 ≤ (rd x1 x6) then (if (rd x1 x6) < (x0.length : Int) then (athanorref20_sum.l0 k x0 x1 (wrap64 (x5 + (rd x0 (rd x1 x6)))) (wrap64 (x6 + 1))) else (none)) else (none)) else (none)) else (some x5)
def athanorref20_sum.f (k : Nat) (l0 : List Int) (l1 : List Int) : Option (Int) := athanorref20_sum.l0 k l0 l1 0 0
theorem athanorref20_sum.mono_l : ∀ k, (∀ y0 y1 y2 y3, LeO (athanorref20_sum.l0 k y0 y1 y2 y3) (athanorref20_sum.l0 (k + 1) y0 y1 y2 y3))
  | 0 => fun _ _ _ _ r h => by simp [athanorref20_sum.l0] at h
  | k + 1 => by
    have ih0 := athanorref20_sum.mono_l k
    · intro y0 y1 y2 y3
      unfold athanorref20_sum.l0
      repeat' first
      | (with_reducible exact ih0 _ _ _ _)
      | (with_reducible exact LeO.refl _)
      | (with_reducible exact LeO.none _)
      | (with_reducible refine LeO.ite ?_ ?_)
      | (with_reducible refine LeO.bind ?_ (fun _ => ?_))
      | exact ih0 _ _ _ _
      | exact LeO.none _
      | refine LeO.ite ?_ ?_
      | refine LeO.bind ?_ (fun _ => ?_)
theorem athanorref20_sum.mono : ∀ a0 a1 k, LeO (athanorref20_sum.f k a0 a1) (athanorref20_sum.f (k + 1) a0 a1) := by
  intro a0 a1 k
  have ih0 := athanorref20_sum.mono_l k
  unfold athanorref20_sum.f
  repeat' first
      | (with_reducible exact ih0 _ _ _ _)
      | (with_reducible exact LeO.refl _)
      | (with_reducible exact LeO.none _)
      | (with_reducible refine LeO.ite ?_ ?_)
      | (with_reducible refine LeO.bind ?_ (fun _ => ?_))
      | exact ih0 _ _ _ _
      | exact LeO.none _
      | refine LeO.ite ?_ ?_
      | refine LeO.bind ?_ (fun _ => ?_)
set_option maxHeartbeats 8000000 in
set_option maxRecDepth 100000 in
theorem athanorref20_sum.calls (k : Nat) (A0 : Option Addr) (c0 : Nat) (l0 : List Int) (A1 : Option Addr) (c1 : Nat) (l1 : List Int) (r : Int) (w : World) (hr0 : Kd.C (Kd.int .i64) w A0 l0.length l0) (hc0 : l0.length ≤ c0) (hr1 : Kd.C (Kd.int .i64) w A1 l1.length l1) (hc1 : l1.length ≤ c1) (h : athanorref20_sum.f k l0 l1 = some r) :
    Calls Try.prog 36 #[.slice A0 l0.length c0, .slice A1 l1.length c1] w fun e w' => e = .returned (.int .i64 r) ∧ Drawn0 w w' := by
  have HR0 := Aside0.mk hr0
  have HC0 := Aside0.mk hc0
  clear hr0 hc0
  have HR1 := Aside0.mk hr1
  have HC1 := Aside0.mk hc1
  clear hr1 hc1
  have H : (athanorref20_sum.l0 k l0 l1 0 0) = some r := h
  clear h
  have H' := Aside0.mk H
  clear H
  go_enter Try.func36, Try.ntmps36
  go_wp2
  go_loopg [5, 6] k (fun kq v5 v6 w' => ∃ (x5_1 : Int) (x6_1 : Int), v5 = .int .i64 x5_1 ∧ v6 = .int .i64 x6_1 ∧ Aside0 (athanorref20_sum.l0 kq l0 l1 x5_1 x6_1 = some r) ∧ Aside0 (kq ≤ k) ∧ Drawn0 w w')
  case atStart => exact ⟨(0), (0), (by first | rfl | (simp; done) | (simp [*]; done)), (by first | rfl | (simp; done) | (simp [*]; done)), H', ⟨Nat.le_refl _⟩, by repeat (first | exact Drawn0.refl _ | apply Drawn0.step)⟩
  case round =>
    clear H'
    try clear c1
    try clear p2
    obtain ⟨x5_1, x6_1, rfl, rfl, HA, HK1, ⟨m1, rfl⟩⟩ := hrel
    cases gk with
    | zero => exact absurd HA.out (by simp [athanorref20_sum.l0])
    | succ k1 =>
      have H := HA.out
      clear HA
      simp only [athanorref20_sum.l0] at H
      by_cases c3 : x6_1 < (l1.length : Int)
      · rw [if_pos c3] at H
        have c3b0 : decide (x6_1 < (l1.length : Int)) = true := decide_eq_true c3
        clear c3
        by_cases c4 : 0 ≤ x6_1
        · rw [if_pos c4] at H
          have c4b0 : decide (0 ≤ x6_1) = true := decide_eq_true c4
          clear c4
          by_cases c5 : 0 ≤ (rd l1 x6_1)
          · rw [if_pos c5] at H
            have c5b0 : decide (0 ≤ (rd l1 x6_1)) = true := decide_eq_true c5
            clear c5
            by_cases c6 : (rd l1 x6_1) < (l0.length : Int)
            · rw [if_pos c6] at H
              have c6b0 : decide ((rd l1 x6_1) < (l0.length : Int)) = true := decide_eq_true c6
              clear c6
              have H' := Aside0.mk H
              clear H
              have p138 : 0 ≤ (x6_1 : Int) := of_decide_eq_true (by first | (with_reducible assumption) | assumption)
              have q138 : x6_1 < (l1.length : Int) := of_decide_eq_true (by first | (with_reducible assumption) | assumption)
              obtain ⟨ad138, e138, hx138_0⟩ := Kd.at_int HR1.out x6_1 p138 q138
              cases e138
              replace p138 := eq_true p138
              replace q138 := eq_true q138
              have p139 : 0 ≤ ((rd l1 x6_1) : Int) := of_decide_eq_true (by first | (with_reducible assumption) | assumption)
              have q139 : (rd l1 x6_1) < (l0.length : Int) := of_decide_eq_true (by first | (with_reducible assumption) | assumption)
              obtain ⟨ad139, e139, hx139_0⟩ := Kd.at_int HR0.out (rd l1 x6_1) p139 q139
              cases e139
              replace p139 := eq_true p139
              replace q139 := eq_true q139
              go_wp2
              go_roundg k1
              case measure => have := HK1.out; omega
              case rel => exact ⟨(wrap64 (x5_1 + (rd l0 (rd l1 x6_1)))), (wrap64 (x6_1 + 1)), (by first | rfl | (simp; done) | (simp [*]; done)), (by first | rfl | (simp; done) | (simp [*]; done)), H', ⟨by have := HK1.out; omega⟩, by repeat (first | exact Drawn0.refl _ | apply Drawn0.step)⟩
            · rw [if_neg c6] at H
              exact absurd H (by simp)
          · rw [if_neg c5] at H
            exact absurd H (by simp)
        · rw [if_neg c4] at H
          exact absurd H (by simp)
      · rw [if_neg c3] at H
        have c3b0 : decide (x6_1 < (l1.length : Int)) = false := decide_eq_false c3
        clear c3
        obtain rfl := Option.some.inj H
        go_wp2
        go_ret
        exact ⟨by first | rfl | (simp; done) | (simp [*]; done), by repeat (first | exact Drawn0.refl _ | apply Drawn0.step)⟩
end Go.Proofs.Ytiejdbdbafmccaa.PCh
/- part PChx10 -/
namespace Go.Proofs.Ytiejdbdbafmccaa.PCh
open Go.RowKit Go.Proofs.YtiejdbdbafmccaaW.PrintWords Go.Proofs.YtiejdbdbafmccaaW.PrintLast Go.Proofs.YtiejdbdbafmccaaW.PrintMore
attribute [local go_sem] max2_int min2_int max_two min_two max_three min_three max_four min_four
set_option linter.unusedVariables false
set_option linter.unusedSimpArgs false
def athanorref20_with.f (l0 : List Int) (a1 : Int) : Option (List Int) := if ([] : List Int).length + l0.length < 17592186044416 then ((some (([] : List Int) ++ l0 : List Int)).bind fun y140 => (if y140.length < 17592186044416 then (some (y140 ++ [a1])) else (none))) else (none)
set_option maxHeartbeats 8000000 in
set_option maxRecDepth 100000 in
theorem athanorref20_with.calls (A0 : Option Addr) (c0 : Nat) (l0 : List Int) (a1 : Int) (r : List Int) (w : World) (hr0 : Kd.C (Kd.int .i64) w A0 l0.length l0) (hc0 : l0.length ≤ c0) (h : athanorref20_with.f l0 a1 = some r) :
    Calls Try.prog 37 #[.slice A0 l0.length c0, .int .i64 a1] w fun e w' => ∃ v0_ : Value, e = .returned (v0_) ∧ Kd.R (Kd.int .i64) 3 w' w.heap.size (fun _ => True) v0_ r ∧ Below w.heap.size w w' := by
  have HR0 := Aside0.mk hr0
  have HC0 := Aside0.mk hc0
  clear hr0 hc0
  have HB := Aside0.mk (Below.refl w.heap.size w)
  have H : (if ([] : List Int).length + l0.length < 17592186044416 then ((some (([] : List Int) ++ l0 : List Int)).bind fun y140 => (if y140.length < 17592186044416 then (some (y140 ++ [a1])) else (none))) else (none)) = some r := h
  clear h
  by_cases c3 : ([] : List Int).length + l0.length < 17592186044416
  · rw [if_pos c3] at H
    have LMc3 := Aside0.mk c3
    clear c3
    obtain ⟨y140, hy140⟩ : ∃ y_ : List Int, y_ = (([] : List Int) ++ l0) := ⟨_, rfl⟩
    replace H : (if y140.length < 17592186044416 then (some (y140 ++ [a1])) else (none)) = some r := by first | (rw [hy140]; with_reducible exact H) | (have H2_ := (Option.bind_some _ _).symm.trans H; rw [hy140]; with_reducible exact H2_) | (have H2_ := (Option.bind_some _ _).symm.trans H; with_reducible exact H2_) | with_reducible exact H | (rw [hy140]; exact H) | exact H
    have Ny140 := Aside0.mk hy140
    clear hy140
    by_cases c4 : y140.length < 17592186044416
    · rw [if_pos c4] at H
      have LMc4 := Aside0.mk c4
      clear c4
      obtain ⟨y143, hy143⟩ : ∃ y_ : List Int, y_ = (y140 ++ [a1]) := ⟨_, rfl⟩
      replace H : (some y143) = some r := by first | (rw [hy143]; with_reducible exact H) | (have H2_ := (Option.bind_some _ _).symm.trans H; rw [hy143]; with_reducible exact H2_) | (have H2_ := (Option.bind_some _ _).symm.trans H; with_reducible exact H2_) | with_reducible exact H | (rw [hy143]; exact H) | exact H
      have Ny143 := Aside0.mk hy143
      clear hy143
      obtain rfl := Option.some.inj H
      go_enter Try.func37, Try.ntmps37
      go_wp2_with (first | ((with_reducible refine gate_builtin (b := .append) (xs := #[.tmp 6, .tmp 7]) rfl ?_); at_builtin; refine Kd.R_append_rows (Kd.int .i64) (w0 := w) w.heap.size rfl (.tmp 6) (.tmp 7) 22 3 (.int .i64 0) 8 rfl Try.underlying22 info3 rfl (by decide) (by omega) (.slice none 0 0) ([] : List Int) l0 _ _ _ (fun _ => True) (fun _ => False) rfl rfl ?aO ?aR (fun _ _ h => h) (fun _ h => h.elim) ?aF ?aB ?aS ?aL ?_; (case aR => repeat (first | exact HR0.out | (with_reducible refine Kd.C_alloc ?_ _) | (with_reducible refine Kd.C_drewN ?_ _) | (with_reducible refine Kd.C_drew ?_))); (case aB => exact (by repeat (first | (with_reducible first | exact HB.out | apply below_alloc | apply pw_below_drewN | apply below_drew1) | exact HB.out))); (case aF => exact (fun _ _ => trivial)); (case aO => exact ((Kd.R_nil _ _ _ _ (fun _ => True)))); (case aS => exact (below_size (by repeat (first | (with_reducible first | exact HB.out | apply below_alloc | apply pw_below_drewN | apply below_drew1) | exact HB.out)))); (case aL => have := LMc3.out; omega); intro v141 w5 ho hb hg hat; rw [← Ny140.out] at ho; have n0_ := Aside0.mk (hb); have n1_ := Aside0.mk (ho); clear HB; have HB := n0_; have HO142 := n1_; clear n0_ n1_; clear ho hb hg hat) | ((with_reducible refine gate_builtin (b := .append) (xs := #[.tmp 9, .tmp 11]) rfl ?_); at_builtin; refine Kd.R_append (Kd.int .i64) (w0 := w) w.heap.size rfl (.tmp 9) (.tmp 11) 22 3 (.int .i64 0) 8 rfl Try.underlying22 info3 rfl (by decide) (by omega) v141 y140 a1 [.int .i64 a1] (fun _ => True) (fun _ => False) rfl rfl ?aP (fun _ hk => hk.elim) ?aF ?aO ?aB ?aS ?aL ?_; (case aP => exact rfl); (case aB => exact (by repeat (first | (with_reducible first | exact HB.out | apply below_alloc | apply pw_below_drewN | apply below_drew1) | exact HB.out))); (case aF => exact (fun _ _ => trivial)); (case aO => exact (by (with_reducible repeat (first | apply Kd.R_alloc | apply Kd.R_drewN | apply Kd.R_drew)); exact HO142.out)); (case aS => exact (below_size (by repeat (first | (with_reducible first | exact HB.out | apply below_alloc | apply pw_below_drewN | apply below_drew1) | exact HB.out)))); (case aL => have := LMc4.out; omega); intro v144 w6 ho hb hg hat; rw [← Ny143.out] at ho; have n0_ := Aside0.mk (hb); have n1_ := Aside0.mk (ho); clear HB; clear HO142; have HB := n0_; have HO145 := n1_; clear n0_ n1_; clear ho hb hg hat))
      go_ret
      exact ⟨_, by first | rfl | (simp [errW_none, errW_some] <;> rfl) | (simp [*, errW_none, errW_some] <;> rfl), by (with_reducible repeat (first | apply Kd.R_alloc | apply Kd.R_drewN | apply Kd.R_drew)); exact HO145.out, by repeat (first | (with_reducible first | exact HB.out | apply below_alloc | apply pw_below_drewN | apply below_drew1) | exact HB.out)⟩
    · rw [if_neg c4] at H
      exact absurd H (by simp)
  · rw [if_neg c3] at H
    exact absurd H (by simp)
end Go.Proofs.Ytiejdbdbafmccaa.PCh
/- part PChx11 -/
namespace Go.Proofs.Ytiejdbdbafmccaa.PCh
open Go.RowKit Go.Proofs.YtiejdbdbafmccaaW.PrintWords Go.Proofs.YtiejdbdbafmccaaW.PrintLast Go.Proofs.YtiejdbdbafmccaaW.PrintMore
attribute [local go_sem] max2_int min2_int max_two min_two max_three min_three max_four min_four
set_option linter.unusedVariables false
set_option linter.unusedSimpArgs false
def athanorref20_without.l0 : Nat → List Int → Int → List Int → Int → Option (List Int)
  | 0, _, _, _, _ => none
  | k + 1, x0, x1, x5, x6 => if x6 < (x0.length : Int) then (if 0 ≤ x6 then (if (rd x0 x6) = x1 then (athanorref20_without.l0 k x0 x1 x5 (wrap64 (x6 + 1))) else (if x5.length < 17592186044416 then (athanorref20_without.l0 k x0 x1 (x5 ++ [rd x0 x6]) (wrap64 (x6 + 1))) else (none))) else (none)) else (some x5)
def athanorref20_without.f (k : Nat) (l0 : List Int) (a1 : Int) : Option (List Int) := athanorref20_without.l0 k l0 a1 ([] : List Int) 0
theorem athanorref20_without.mono_l : ∀ k, (∀ y0 y1 y2 y3, LeO (athanorref20_without.l0 k y0 y1 y2 y3) (athanorref20_without.l0 (k + 1) y0 y1 y2 y3))
  | 0 => fun _ _ _ _ r h => by simp [athanorref20_without.l0] at h
  | k + 1 => by
    have ih0 := athanorref20_without.mono_l k
    · intro y0 y1 y2 y3
      unfold athanorref20_without.l0
      repeat' first
      | (with_reducible exact ih0 _ _ _ _)
      | (with_reducible exact LeO.refl _)
      | (with_reducible exact LeO.none _)
      | (with_reducible refine LeO.ite ?_ ?_)
      | (with_reducible refine LeO.bind ?_ (fun _ => ?_))
      | exact ih0 _ _ _ _
      | exact LeO.none _
      | refine LeO.ite ?_ ?_
      | refine LeO.bind ?_ (fun _ => ?_)
theorem athanorref20_without.mono : ∀ a0 a1 k, LeO (athanorref20_without.f k a0 a1) (athanorref20_without.f (k + 1) a0 a1) := by
  intro a0 a1 k
  have ih0 := athanorref20_without.mono_l k
  unfold athanorref20_without.f
  repeat' first
      | (with_reducible exact ih0 _ _ _ _)
      | (with_reducible exact LeO.refl _)
      | (with_reducible exact LeO.none _)
      | (with_reducible refine LeO.ite ?_ ?_)
      | (with_reducible refine LeO.bind ?_ (fun _ => ?_))
      | exact ih0 _ _ _ _
      | exact LeO.none _
      | refine LeO.ite ?_ ?_
      | refine LeO.bind ?_ (fun _ => ?_)
set_option maxHeartbeats 8000000 in
set_option maxRecDepth 100000 in
theorem athanorref20_without.calls (k : Nat) (A0 : Option Addr) (c0 : Nat) (l0 : List Int) (a1 : Int) (r : List Int) (w : World) (hr0 : Kd.C (Kd.int .i64) w A0 l0.length l0) (hc0 : l0.length ≤ c0) (h : athanorref20_without.f k l0 a1 = some r) :
    Calls Try.prog 38 #[.slice A0 l0.length c0, .int .i64 a1] w fun e w' => ∃ v0_ : Value, e = .returned (v0_) ∧ Kd.R (Kd.int .i64) 3 w' w.heap.size (fun _ => True) v0_ r ∧ Below w.heap.size w w' := by
  have HR0 := Aside0.mk hr0
  have HC0 := Aside0.mk hc0
  clear hr0 hc0
  have HB := Aside0.mk (Below.refl w.heap.size w)
  have H : (athanorref20_without.l0 k l0 a1 ([] : List Int) 0) = some r := h
  clear h
  have H' := Aside0.mk H
  clear H
  go_enter Try.func38, Try.ntmps38
  go_wp2
  go_loopg [5, 6] k (fun kq v5 v6 w' => ∃ (x5_1 : List Int) (x6_1 : Int), v6 = .int .i64 x6_1 ∧ Aside0 (athanorref20_without.l0 kq l0 a1 x5_1 x6_1 = some r) ∧ Aside0 (kq ≤ k) ∧ Aside0 (Kd.R (Kd.int .i64) 3 w' w.heap.size (fun _ => True) v5 x5_1) ∧ Aside0 (Below w.heap.size w w'))
  case atStart => exact ⟨(([] : List Int)), (0), (by first | rfl | (simp; done) | (simp [*]; done)), H', ⟨Nat.le_refl _⟩, ⟨by first | exact Kd.R_nil _ _ _ _ _ | exact Kd.N_nil _ _ _ _ _ | exact Kd.V_nil _ _ _ _ _ | exact Kd.Q_nil _ _ _ _ _ | exact Kd.S_nil _ _ _ _ _⟩, ⟨by repeat (first | (with_reducible first | exact HB.out | apply below_alloc | apply pw_below_drewN | apply below_drew1) | exact HB.out)⟩⟩
  case round =>
    clear H'
    try clear p2
    obtain ⟨x5_1, x6_1, rfl, HA, HK1, HO_5, HB⟩ := hrel
    cases gk with
    | zero => exact absurd HA.out (by simp [athanorref20_without.l0])
    | succ k1 =>
      have H := HA.out
      clear HA
      simp only [athanorref20_without.l0] at H
      by_cases c3 : x6_1 < (l0.length : Int)
      · rw [if_pos c3] at H
        have c3b0 : decide (x6_1 < (l0.length : Int)) = true := decide_eq_true c3
        clear c3
        by_cases c4 : 0 ≤ x6_1
        · rw [if_pos c4] at H
          have c4b0 : decide (0 ≤ x6_1) = true := decide_eq_true c4
          clear c4
          by_cases c5 : (rd l0 x6_1) = a1
          · rw [if_pos c5] at H
            have c5b0 : ((rd l0 x6_1) == a1) = true := beq_iff_eq.mpr c5
            have c5b1 : ((rd l0 x6_1) != a1) = false := bne_eq_false_iff_eq.mpr c5
            clear c5
            have H' := Aside0.mk H
            clear H
            have p146 : 0 ≤ (x6_1 : Int) := of_decide_eq_true (by first | (with_reducible assumption) | assumption)
            have q146 : x6_1 < (l0.length : Int) := of_decide_eq_true (by first | (with_reducible assumption) | assumption)
            obtain ⟨ad146, e146, hx146_0⟩ := Kd.at_int HR0.out x6_1 p146 q146
            cases e146
            replace hx146_0 := (HB.out.cell (World.block_lt_of_cell? w _ hx146_0)).trans hx146_0
            replace p146 := eq_true p146
            replace q146 := eq_true q146
            go_wp2
            go_roundg k1
            case measure => have := HK1.out; omega
            case rel => exact ⟨(x5_1), (wrap64 (x6_1 + 1)), (by first | rfl | (simp; done) | (simp [*]; done)), H', ⟨by have := HK1.out; omega⟩, ⟨by (with_reducible repeat (first | apply Kd.R_alloc | apply Kd.R_drewN | apply Kd.R_drew)); exact HO_5.out⟩, ⟨by repeat (first | (with_reducible first | exact HB.out | apply below_alloc | apply pw_below_drewN | apply below_drew1) | exact HB.out)⟩⟩
          · rw [if_neg c5] at H
            have c5b0 : ((rd l0 x6_1) == a1) = false := beq_eq_false_iff_ne.mpr c5
            have c5b1 : ((rd l0 x6_1) != a1) = true := bne_iff_ne.mpr c5
            by_cases c6 : x5_1.length < 17592186044416
            · rw [if_pos c6] at H
              have LMc6 := Aside0.mk c6
              clear c6
              obtain ⟨y148, hy148⟩ : ∃ y_ : List Int, y_ = (x5_1 ++ [rd l0 x6_1]) := ⟨_, rfl⟩
              replace H : (athanorref20_without.l0 k1 l0 a1 y148 (wrap64 (x6_1 + 1))) = some r := by first | (rw [hy148]; with_reducible exact H) | (have H2_ := (Option.bind_some _ _).symm.trans H; rw [hy148]; with_reducible exact H2_) | (have H2_ := (Option.bind_some _ _).symm.trans H; with_reducible exact H2_) | with_reducible exact H | (rw [hy148]; exact H) | exact H
              have Ny148 := Aside0.mk hy148
              clear hy148
              have H' := Aside0.mk H
              clear H
              have p146 : 0 ≤ (x6_1 : Int) := of_decide_eq_true (by first | (with_reducible assumption) | assumption)
              have q146 : x6_1 < (l0.length : Int) := of_decide_eq_true (by first | (with_reducible assumption) | assumption)
              obtain ⟨ad146, e146, hx146_0⟩ := Kd.at_int HR0.out x6_1 p146 q146
              cases e146
              replace hx146_0 := (HB.out.cell (World.block_lt_of_cell? w _ hx146_0)).trans hx146_0
              replace p146 := eq_true p146
              replace q146 := eq_true q146
              have p147 : 0 ≤ (x6_1 : Int) := of_decide_eq_true (by first | (with_reducible assumption) | assumption)
              have q147 : x6_1 < (l0.length : Int) := of_decide_eq_true (by first | (with_reducible assumption) | assumption)
              obtain ⟨ad147, e147, hx147_0⟩ := Kd.at_int HR0.out x6_1 p147 q147
              obtain rfl : ad146 = ad147 := (by injection e147)
              replace hx147_0 := (HB.out.cell (World.block_lt_of_cell? w _ hx147_0)).trans hx147_0
              replace p147 := eq_true p147
              replace q147 := eq_true q147
              go_wp2_with (first | ((with_reducible refine gate_builtin (b := .append) (xs := #[.tmp 19, .tmp 24]) rfl ?_); at_builtin; refine Kd.R_append (Kd.int .i64) (w0 := w) w.heap.size rfl (.tmp 19) (.tmp 24) 22 3 (.int .i64 0) 8 rfl Try.underlying22 info3 rfl (by decide) (by omega) u5 x5_1 (rd l0 x6_1) [.int .i64 (rd l0 x6_1)] (fun _ => True) (fun _ => False) rfl rfl ?aP (fun _ hk => hk.elim) ?aF ?aO ?aB ?aS ?aL ?_; (case aP => exact rfl); (case aB => exact (by repeat (first | (with_reducible first | exact HB.out | apply below_alloc | apply pw_below_drewN | apply below_drew1) | exact HB.out))); (case aF => exact (fun _ _ => trivial)); (case aO => exact (by (with_reducible repeat (first | apply Kd.R_alloc | apply Kd.R_drewN | apply Kd.R_drew)); exact HO_5.out)); (case aS => exact (below_size (by repeat (first | (with_reducible first | exact HB.out | apply below_alloc | apply pw_below_drewN | apply below_drew1) | exact HB.out)))); (case aL => have := LMc6.out; omega); intro v149 w7 ho hb hg hat; rw [← Ny148.out] at ho; have n0_ := Aside0.mk (hb); have n1_ := Aside0.mk (ho); clear HB; clear HO_5; have HB := n0_; have HO150 := n1_; clear n0_ n1_; clear ho hb hg hat))
              go_roundg k1
              case measure => have := HK1.out; omega
              case rel => exact ⟨(y148), (wrap64 (x6_1 + 1)), (by first | rfl | (simp; done) | (simp [*]; done)), H', ⟨by have := HK1.out; omega⟩, ⟨by (with_reducible repeat (first | apply Kd.R_alloc | apply Kd.R_drewN | apply Kd.R_drew)); exact HO150.out⟩, ⟨by repeat (first | (with_reducible first | exact HB.out | apply below_alloc | apply pw_below_drewN | apply below_drew1) | exact HB.out)⟩⟩
            · rw [if_neg c6] at H
              exact absurd H (by simp)
        · rw [if_neg c4] at H
          exact absurd H (by simp)
      · rw [if_neg c3] at H
        have c3b0 : decide (x6_1 < (l0.length : Int)) = false := decide_eq_false c3
        clear c3
        obtain rfl := Option.some.inj H
        go_wp2
        go_ret
        exact ⟨_, by first | rfl | (simp [errW_none, errW_some] <;> rfl) | (simp [*, errW_none, errW_some] <;> rfl), by (with_reducible repeat (first | apply Kd.R_alloc | apply Kd.R_drewN | apply Kd.R_drew)); exact HO_5.out, by repeat (first | (with_reducible first | exact HB.out | apply below_alloc | apply pw_below_drewN | apply below_drew1) | exact HB.out)⟩
end Go.Proofs.Ytiejdbdbafmccaa.PCh
/- part ChRp -/
namespace Go.Proofs.Ytiejdbdbafmccaa
open Go.RowKit Go.Proofs.YtiejdbdbafmccaaW.PrintWords Go.Proofs.Ytiejdbdbafmccaa.PCh
theorem has_l0 (l : List Int) (x : Int) (hl : l.length ≤ 1000000) : ∀ d i, l.length - i = d → i ≤ l.length → Ev (fun k => athanorref18_Has.l0 k l x (i : Int)) (decide (x ∈ l.drop i))
  | 0, i, hd, hi => by
    obtain rfl : i = l.length := by omega
    rw [List.drop_length, decide_eq_false (by simp)]
    exact Ev.step (fun k => by rw [athanorref18_Has.l0, if_neg (by omega)]) (Ev.now _)
  | d + 1, i, hd, hi => by
    have hlt : i < l.length := by omega
    rw [drop_at l i hlt]
    by_cases hx : l[i] = x
    · rw [decide_eq_true (by rw [hx]; simp)]
      exact Ev.step (fun k => by rw [athanorref18_Has.l0, if_pos (by omega), if_pos (by omega), rd_nat, getD_at l i hlt, if_pos hx]) (Ev.now _)
    · have e : decide (x ∈ l[i] :: l.drop (i + 1)) = decide (x ∈ l.drop (i + 1)) := by
        rw [Bool.eq_iff_iff]
        simp only [decide_eq_true_eq, List.mem_cons]
        exact ⟨fun h => h.resolve_left (fun e => hx e.symm), Or.inr⟩
      rw [e]
      refine Ev.step (fun k => by rw [athanorref18_Has.l0, if_pos (by omega), if_pos (by omega), rd_nat, getD_at l i hlt, if_neg hx, w1 i (by omega)]) ?_
      exact has_l0 l x hl d (i + 1) (by omega) (by omega)
theorem has_ev (l : List Int) (x : Int) (hl : l.length ≤ 1000000) : ∃ k, athanorref18_Has.f k l x = some (decide (x ∈ l)) := by
  have q := has_l0 l x hl l.length 0 (by omega) (by omega)
  rw [List.drop_zero] at q
  exact Ev.rounds q
def sumL (ws : List Int) (l : List Int) : Int := (l.map fun i => ws.getD i.toNat 0).sum
theorem sumL_cons (ws : List Int) (a : Int) (l : List Int) : sumL ws (a :: l) = ws.getD a.toNat 0 + sumL ws l := by simp [sumL]
theorem sumL_app (ws : List Int) (l r : List Int) : sumL ws (l ++ r) = sumL ws l + sumL ws r := by simp [sumL]
theorem sumL_nil (ws : List Int) : sumL ws [] = 0 := rfl
theorem sumL_bd {ws cs : List Int} (h : Rt ws cs) : ∀ l : List Int, 0 ≤ sumL ws l ∧ sumL ws l ≤ 65536 * (l.length : Int)
  | [] => by simp [sumL]
  | a :: l => by
    have := sumL_bd h l
    have := ws_bd h a.toNat
    rw [sumL_cons, List.length_cons]
    omega
theorem sum_l0 {ws cs : List Int} (h : Rt ws cs) (l : List Int) (hl : l.length ≤ 1000000) (hb : ∀ i ∈ l, 0 ≤ i ∧ i < (ws.length : Int)) : ∀ d i (acc : Int), l.length - i = d → i ≤ l.length → 0 ≤ acc → acc ≤ 65536 * (i : Int) → Ev (fun k => athanorref20_sum.l0 k ws l acc (i : Int)) (acc + sumL ws (l.drop i))
  | 0, i, acc, hd, hi, h0, h1 => by
    obtain rfl : i = l.length := by omega
    rw [List.drop_length, sumL_nil, Int.add_zero]
    exact Ev.step (fun k => by rw [athanorref20_sum.l0, if_neg (by omega)]) (Ev.now _)
  | d + 1, i, acc, hd, hi, h0, h1 => by
    have hlt : i < l.length := by omega
    obtain ⟨b0, b1⟩ := hb l[i] (List.getElem_mem hlt)
    have hw := ws_bd h l[i].toNat
    have e : rd ws l[i] = ws.getD l[i].toNat 0 := rfl
    rw [drop_at l i hlt, sumL_cons]
    have q := sum_l0 h l hl hb d (i + 1) (acc + ws.getD l[i].toNat 0) (by omega) (by omega) (by omega) (by omega)
    rw [Int.add_assoc] at q
    exact Ev.step (fun k => by rw [athanorref20_sum.l0, if_pos (by omega), if_pos (by omega), rd_nat, getD_at l i hlt, if_pos b0, if_pos b1, e, wr64 (by omega) (by omega), w1 i (by omega)]) q
theorem sum_ev {ws cs : List Int} (h : Rt ws cs) (l : List Int) (hl : l.length ≤ 1000000) (hb : ∀ i ∈ l, 0 ≤ i ∧ i < (ws.length : Int)) : ∃ k, athanorref20_sum.f k ws l = some (sumL ws l) := by
  have q := sum_l0 h l hl hb l.length 0 0 (by omega) (by omega) (by omega) (by omega)
  rw [List.drop_zero, Int.zero_add] at q
  exact Ev.rounds q
theorem with_f (l : List Int) (x : Int) (hl : l.length ≤ 1000000) : athanorref20_with.f l x = some (l ++ [x]) := by
  unfold athanorref20_with.f
  rw [if_pos (by simp; omega), Option.bind_some, if_pos (by simp; omega), List.nil_append]
theorem without_l0 (l : List Int) (x : Int) (hl : l.length ≤ 1000000) : ∀ d i (acc : List Int), l.length - i = d → i ≤ l.length → acc.length ≤ i → Ev (fun k => athanorref20_without.l0 k l x acc (i : Int)) (acc ++ (l.drop i).filter (fun y => !decide (y = x)))
  | 0, i, acc, hd, hi, _ => by
    obtain rfl : i = l.length := by omega
    rw [List.drop_length]
    simp only [List.filter_nil, List.append_nil]
    exact Ev.step (fun k => by rw [athanorref20_without.l0, if_neg (by omega)]) (Ev.now _)
  | d + 1, i, acc, hd, hi, ha => by
    have hlt : i < l.length := by omega
    rw [drop_at l i hlt]
    by_cases hx : l[i] = x
    · rw [List.filter_cons_of_neg (by simp [hx])]
      exact Ev.step (fun k => by rw [athanorref20_without.l0, if_pos (by omega), if_pos (by omega), rd_nat, getD_at l i hlt, if_pos hx, w1 i (by omega)]) (without_l0 l x hl d (i + 1) acc (by omega) (by omega) (by omega))
    · rw [List.filter_cons_of_pos (by simp [hx])]
      have q := without_l0 l x hl d (i + 1) (acc ++ [l[i]]) (by omega) (by omega) (by simp; omega)
      rw [List.append_assoc, List.singleton_append] at q
      exact Ev.step (fun k => by rw [athanorref20_without.l0, if_pos (by omega), if_pos (by omega), rd_nat, getD_at l i hlt, if_neg hx, if_pos (by omega), w1 i (by omega)]) q
theorem without_ev (l : List Int) (x : Int) (hl : l.length ≤ 1000000) : ∃ k, athanorref20_without.f k l x = some (l.filter (fun y => !decide (y = x))) := by
  have q := without_l0 l x hl l.length 0 [] (by omega) (by omega) (by simp)
  rw [List.drop_zero, List.nil_append] at q
  exact Ev.rounds q
structure RSt where
  th : List Int
  sv : List Int
  gr : List Int
  em : Int
  sd : Int
  dn : Int
  pk : Int
  ct : Int
def flag (b : Bool) : Int := if b then 1 else 0
def In (n : Nat) (f : Nat → Bool) (l : List Int) : Prop := ∀ i : Int, i ∈ l ↔ 1 ≤ i ∧ i ≤ (n : Int) ∧ f i.toNat = true
theorem In.has {n : Nat} {f : Nat → Bool} {l : List Int} (h : In n f l) (i : Nat) (h1 : 1 ≤ i) (h2 : i ≤ n) : decide ((i : Int) ∈ l) = f i := by
  rw [Bool.eq_iff_iff, decide_eq_true_eq, h (i : Int), Int.toNat_natCast]
  exact ⟨fun h => h.2.2, fun h => ⟨by omega, by omega, h⟩⟩
theorem In.up {n : Nat} {f : Nat → Bool} {l l' : List Int} (h : In n f l) (i : Nat) (b : Bool) (hi : 1 ≤ i ∧ i ≤ n) (hl : ∀ j : Int, j ∈ l' ↔ (if j = (i : Int) then b = true else j ∈ l)) : In n (upB f i b) l' := fun j => by
  rw [hl j]
  unfold upB
  by_cases hj : j = (i : Int)
  · subst hj
    rw [if_pos rfl, Int.toNat_natCast, if_pos rfl]
    exact ⟨fun h => ⟨by omega, by omega, h⟩, fun h => h.2.2⟩
  · rw [if_neg hj, h j]
    by_cases h1 : 1 ≤ j
    · rw [if_neg (by omega)]
    · exact ⟨fun h => absurd h.1 h1, fun h => absurd h.1 h1⟩
theorem In.add {n : Nat} {f : Nat → Bool} {l : List Int} (h : In n f l) (i : Nat) (hi : 1 ≤ i ∧ i ≤ n) : In n (upB f i true) (l ++ [(i : Int)]) := h.up i true hi fun j => by
  rw [List.mem_append, List.mem_singleton]
  by_cases hj : j = (i : Int)
  · rw [if_pos hj]; exact ⟨fun _ => rfl, fun _ => Or.inr hj⟩
  · rw [if_neg hj]; exact ⟨fun h => h.resolve_right hj, Or.inl⟩
def wo (l : List Int) (x : Int) : List Int := l.filter (fun y => !decide (y = x))
theorem mem_wo {l : List Int} {x j : Int} : j ∈ wo l x ↔ j ∈ l ∧ j ≠ x := by simp [wo]
theorem In.sub {n : Nat} {f : Nat → Bool} {l : List Int} (h : In n f l) (i : Nat) (hi : 1 ≤ i ∧ i ≤ n) : In n (upB f i false) (wo l (i : Int)) := h.up i false hi fun j => by
  rw [mem_wo]
  by_cases hj : j = (i : Int)
  · rw [if_pos hj]; exact ⟨fun h => absurd hj h.2, fun h => by cases h⟩
  · rw [if_neg hj]; exact ⟨fun h => h.1, fun h => ⟨h, hj⟩⟩
theorem In.readd {n : Nat} {f : Nat → Bool} {l : List Int} (h : In n f l) (i : Nat) (hi : 1 ≤ i ∧ i ≤ n) : In n (upB f i true) (wo l (i : Int) ++ [(i : Int)]) := h.up i true hi fun j => by
  rw [List.mem_append, List.mem_singleton, mem_wo]
  by_cases hj : j = (i : Int)
  · rw [if_pos hj]; exact ⟨fun _ => rfl, fun _ => Or.inr hj⟩
  · rw [if_neg hj]; exact ⟨fun h => (h.resolve_right hj).1, fun h => Or.inl ⟨h, hj⟩⟩
theorem wo_len (l : List Int) (x : Int) : (wo l x).length ≤ l.length := List.length_filter_le _ _
theorem sum_wo (ws : List Int) (x : Int) : ∀ l : List Int, l.Nodup → x ∈ l → sumL ws (wo l x) = sumL ws l - ws.getD x.toNat 0
  | [], _, h => by simp at h
  | a :: l, hn, h => by
    rw [List.nodup_cons] at hn
    by_cases ha : a = x
    · subst ha
      have : wo (a :: l) a = l := by
        unfold wo
        rw [List.filter_cons_of_neg (by simp)]
        exact List.filter_eq_self.2 fun y hy => by
          have : y ≠ a := fun e => hn.1 (e ▸ hy)
          simp [this]
      rw [this, sumL_cons]
      omega
    · have hm : x ∈ l := (List.mem_cons.1 h).resolve_left (fun e => ha e.symm)
      have : wo (a :: l) x = a :: wo l x := List.filter_cons_of_pos (by simp [ha])
      rw [this, sumL_cons, sumL_cons, sum_wo ws x l hn.2 hm]
      omega
theorem nodup_add {l : List Int} {x : Int} (h : l.Nodup) (hx : x ∉ l) : (l ++ [x]).Nodup := by
  rw [List.nodup_append]
  exact ⟨h, by simp, fun a ha b hb => by simp at hb; subst hb; exact fun e => hx (e ▸ ha)⟩
theorem nodup_wo {l : List Int} (x : Int) (h : l.Nodup) : (wo l x).Nodup := h.filter _
structure Rel (ws : List Int) (n : Nat) (cap : Int) (t : Nat) (s : RSt) (x : Wk) : Prop where
  th : In n x.th s.th
  sv : In n x.sv s.sv
  gr : In n x.gr s.gr
  thn : s.th.Nodup
  grn : s.gr.Nodup
  em : s.em = flag x.em
  sd : s.sd = flag x.sd
  dn : s.dn = x.dn
  pk : s.pk = x.pk
  ct : s.ct = x.ct
  wd : sumL ws s.th + sumL ws s.gr = x.wd
  lt : s.th.length ≤ t
  ls : s.sv.length ≤ t
  lg : s.gr.length ≤ t
  ths : ∀ i, x.th i = true → x.sv i = true
  gs : ∀ i, x.gr i = true → x.sd = true ∧ (i : Int) = (n : Int) - x.dn
  d0 : x.sd = false → x.dn = 0
  pkw : x.wd ≤ x.pk
  cp : x.wd ≤ cap ∨ s.th = [] ∧ s.gr = []
theorem Rel.start (ws : List Int) (n : Nat) (cap : Int) : Rel ws n cap 0 ⟨[], [], [], 0, 0, 0, 0, 0⟩ wk0 := by
  refine ⟨fun i => ?_, fun i => ?_, fun i => ?_, List.nodup_nil, List.nodup_nil, rfl, rfl, rfl, rfl, rfl, rfl, Nat.le_refl _, Nat.le_refl _, Nat.le_refl _, fun _ h => h, fun i h => ?_, fun _ => rfl, Int.le_refl _, Or.inr ⟨rfl, rfl⟩⟩
  all_goals simp [wk0] at *
theorem Rel.cap_th {ws : List Int} {n : Nat} {cap : Int} {t : Nat} {s : RSt} {x : Wk} (h : Rel ws n cap t s x) (i : Nat) (h1 : 1 ≤ i) (h2 : i ≤ n) (hi : x.th i = true) : x.wd ≤ cap := by
  rcases h.cp with h3 | ⟨h3, _⟩
  · exact h3
  · have := (h.th (i : Int)).2 ⟨by omega, by omega, by rw [Int.toNat_natCast]; exact hi⟩
    rw [h3] at this
    simp at this
theorem Rel.cap_gr {ws : List Int} {n : Nat} {cap : Int} {t : Nat} {s : RSt} {x : Wk} (h : Rel ws n cap t s x) (i : Nat) (h1 : 1 ≤ i) (h2 : i ≤ n) (hi : x.gr i = true) : x.wd ≤ cap := by
  rcases h.cp with h3 | ⟨_, h3⟩
  · exact h3
  · have := (h.gr (i : Int)).2 ⟨by omega, by omega, by rw [Int.toNat_natCast]; exact hi⟩
    rw [h3] at this
    simp at this
section
variable {ws cs : List Int} {cap : Int} {t : Nat} {s : RSt} {x : Wk}
theorem Rel.reck (ht : Rt ws cs) (h : Rel ws cs.length cap t s x) (k : Int) (hk : k = 1 ∨ k = 2) (id : Nat) (h1 : 1 ≤ id) (h2 : id ≤ cs.length) (hth : x.th id = false) (hc : x.wd + ws.getD id 0 ≤ cap) :
    Rel ws cs.length cap (t + 1) { s with th := s.th ++ [(id : Int)], sv := wo s.sv (id : Int) ++ [(id : Int)], ct := s.ct + cs.getD (id - 1) 0, pk := max s.pk (x.wd + ws.getD id 0) } (effW (addW x (ws.getD id 0)) ws cs k id) := by
  have e : effW (addW x (ws.getD id 0)) ws cs k id = { addW x (ws.getD id 0) with th := upB x.th id true, sv := upB x.sv id true, ct := x.ct + cs.getD (id - 1) 0 } := by
    unfold effW
    rw [if_pos hk]
    rfl
  rw [e]
  have hni : (id : Int) ∉ s.th := fun hm => by
    have := ((h.th (id : Int)).1 hm).2.2
    rw [Int.toNat_natCast, hth] at this
    cases this
  refine ⟨h.th.add id ⟨h1, h2⟩, h.sv.readd id ⟨h1, h2⟩, h.gr, nodup_add h.thn hni, h.grn, h.em, h.sd, h.dn, ?_, ?_, ?_, ?_, ?_, ?_, fun i => ?_, h.gs, h.d0, ?_, Or.inl ?_⟩
  · show max s.pk (x.wd + ws.getD id 0) = max x.pk (x.wd + ws.getD id 0)
    rw [h.pk]
  · show s.ct + cs.getD (id - 1) 0 = x.ct + cs.getD (id - 1) 0
    rw [h.ct]
  · show sumL ws (s.th ++ [(id : Int)]) + sumL ws s.gr = x.wd + ws.getD id 0
    rw [sumL_app, sumL_cons, sumL_nil, ← h.wd, Int.toNat_natCast]
    omega
  · show (s.th ++ [(id : Int)]).length ≤ t + 1
    have := h.lt
    simp
    omega
  · show (wo s.sv (id : Int) ++ [(id : Int)]).length ≤ t + 1
    have := h.ls
    have := wo_len s.sv (id : Int)
    simp
    omega
  · have := h.lg
    show s.gr.length ≤ t + 1
    omega
  · show upB x.th id true i = true → upB x.sv id true i = true
    unfold upB
    by_cases hi : i = id
    · rw [if_pos hi, if_pos hi]; exact fun h => h
    · rw [if_neg hi, if_neg hi]; exact h.ths i
  · show x.wd + ws.getD id 0 ≤ max x.pk (x.wd + ws.getD id 0)
    omega
  · exact hc
theorem Rel.free (ht : Rt ws cs) (h : Rel ws cs.length cap t s x) (id : Nat) (h1 : 1 ≤ id) (h2 : id ≤ cs.length) (hth : x.th id = true) :
    Rel ws cs.length cap (t + 1) { s with th := wo s.th (id : Int) } (effW (addW x 0) ws cs 3 id) := by
  have e : effW (addW x 0) ws cs 3 id = { addW x 0 with th := upB x.th id false, wd := x.wd + 0 - ws.getD id 0 } := rfl
  rw [e]
  have hw := ws_bd ht id
  have hm : (id : Int) ∈ s.th := (h.th (id : Int)).2 ⟨by omega, by omega, by rw [Int.toNat_natCast]; exact hth⟩
  have hcap := h.cap_th id h1 h2 hth
  have hpk := h.pkw
  have hlt := h.lt
  have hls := h.ls
  have hlg := h.lg
  have hwl := wo_len s.th (id : Int)
  refine ⟨h.th.sub id ⟨h1, h2⟩, h.sv, h.gr, nodup_wo _ h.thn, h.grn, h.em, h.sd, h.dn, ?_, h.ct, ?_, ?_, ?_, ?_, fun i => ?_, h.gs, h.d0, ?_, Or.inl ?_⟩
  · show s.pk = max x.pk (x.wd + 0)
    rw [h.pk]
    omega
  · show sumL ws (wo s.th (id : Int)) + sumL ws s.gr = x.wd + 0 - ws.getD id 0
    rw [sum_wo ws _ s.th h.thn hm, ← h.wd, Int.toNat_natCast]
    omega
  · show (wo s.th (id : Int)).length ≤ t + 1
    omega
  · show s.sv.length ≤ t + 1
    omega
  · show s.gr.length ≤ t + 1
    omega
  · show upB x.th id false i = true → x.sv i = true
    unfold upB
    by_cases hi : i = id
    · rw [if_pos hi]; exact fun h => by cases h
    · rw [if_neg hi]; exact h.ths i
  · show x.wd + 0 - ws.getD id 0 ≤ max x.pk (x.wd + 0)
    omega
  · show x.wd + 0 - ws.getD id 0 ≤ cap
    omega
theorem Rel.emit (h : Rel ws cs.length cap t s x) (id : Nat) (hc : x.wd ≤ cap) :
    Rel ws cs.length cap (t + 1) { s with em := 1 } (effW (addW x 0) ws cs 4 id) := by
  have e : effW (addW x 0) ws cs 4 id = { addW x 0 with em := true } := rfl
  rw [e]
  have hpk := h.pkw
  have hlt := h.lt
  have hls := h.ls
  have hlg := h.lg
  refine ⟨h.th, h.sv, h.gr, h.thn, h.grn, rfl, h.sd, h.dn, ?_, h.ct, ?_, ?_, ?_, ?_, h.ths, h.gs, h.d0, ?_, Or.inl ?_⟩
  · show s.pk = max x.pk (x.wd + 0)
    rw [h.pk]
    omega
  · show sumL ws s.th + sumL ws s.gr = x.wd + 0
    rw [h.wd]
    omega
  · show s.th.length ≤ t + 1
    omega
  · show s.sv.length ≤ t + 1
    omega
  · show s.gr.length ≤ t + 1
    omega
  · show x.wd + 0 ≤ max x.pk (x.wd + 0)
    omega
  · show x.wd + 0 ≤ cap
    omega
theorem Rel.seed (ht : Rt ws cs) (h : Rel ws cs.length cap t s x) (id : Nat) (hsd : x.sd = false) (hc : x.wd + ws.getD cs.length 0 ≤ cap) :
    Rel ws cs.length cap (t + 1) { s with sd := 1, gr := s.gr ++ [(cs.length : Int)], pk := max s.pk (x.wd + ws.getD cs.length 0) } (effW (addW x (ws.getD cs.length 0)) ws cs 5 id) := by
  have e : effW (addW x (ws.getD cs.length 0)) ws cs 5 id = { addW x (ws.getD cs.length 0) with sd := true, gr := upB x.gr cs.length true } := rfl
  rw [e]
  have hng : ∀ i, x.gr i = false := fun i => by
    cases hi : x.gr i with
    | false => rfl
    | true =>
      have := (h.gs i hi).1
      rw [hsd] at this
      cases this
  have hlo := ht.lo
  have hni : (cs.length : Int) ∉ s.gr := fun hm => by
    have := ((h.gr (cs.length : Int)).1 hm).2.2
    rw [hng] at this
    cases this
  have hlt := h.lt
  have hls := h.ls
  have hlg := h.lg
  refine ⟨h.th, h.sv, h.gr.add cs.length ⟨hlo, Nat.le_refl _⟩, h.thn, nodup_add h.grn hni, h.em, rfl, h.dn, ?_, h.ct, ?_, ?_, ?_, ?_, h.ths, fun i => ?_, (fun h => by cases h), ?_, Or.inl hc⟩
  · show max s.pk (x.wd + ws.getD cs.length 0) = max x.pk (x.wd + ws.getD cs.length 0)
    rw [h.pk]
  · show sumL ws s.th + sumL ws (s.gr ++ [(cs.length : Int)]) = x.wd + ws.getD cs.length 0
    rw [sumL_app, sumL_cons, sumL_nil, ← h.wd, Int.toNat_natCast]
    omega
  · show s.th.length ≤ t + 1
    omega
  · show s.sv.length ≤ t + 1
    omega
  · show (s.gr ++ [(cs.length : Int)]).length ≤ t + 1
    simp
    omega
  · show upB x.gr cs.length true i = true → true = true ∧ (i : Int) = (cs.length : Int) - x.dn
    unfold upB
    by_cases hi : i = cs.length
    · intro _
      have := h.d0 hsd
      exact ⟨rfl, by omega⟩
    · rw [if_neg hi, hng]
      exact fun h => by cases h
  · show x.wd + ws.getD cs.length 0 ≤ max x.pk (x.wd + ws.getD cs.length 0)
    omega
theorem Rel.back (ht : Rt ws cs) (h : Rel ws cs.length cap t s x) (id : Nat) (h1 : 1 ≤ id) (h2 : id ≤ cs.length) (hg : x.gr id = true) (mo : Int) (hmo : mo = if 1 < id then ws.getD (id - 1) 0 else 0) (hc : x.wd + mo ≤ cap) :
    Rel ws cs.length cap (t + 1) { s with gr := wo (if 1 < id then s.gr ++ [((id : Int) - 1)] else s.gr) (id : Int), dn := s.dn + 1, pk := max s.pk (x.wd + mo) } (effW (addW x mo) ws cs 6 id) := by
  have e : effW (addW x mo) ws cs 6 id = { addW x mo with gr := upB (upB x.gr (id - 1) (decide (1 < id))) id false, wd := x.wd + mo - ws.getD id 0, dn := x.dn + 1 } := rfl
  rw [e]
  obtain ⟨g1, g2⟩ := h.gs id hg
  have hon : ∀ i, i ≠ id → x.gr i = false := fun i hi => by
    cases hh : x.gr i with
    | false => rfl
    | true =>
      have := (h.gs i hh).2
      omega
  have hlt := h.lt
  have hls := h.ls
  have hlg := h.lg
  have hpk := h.pkw
  have hw := ws_bd ht id
  have hm : (id : Int) ∈ s.gr := (h.gr (id : Int)).2 ⟨by omega, by omega, by rw [Int.toNat_natCast]; exact hg⟩
  have hcast : 1 < id → (id : Int) - 1 = ((id - 1 : Nat) : Int) := fun _ => by omega
  have key : In cs.length (upB (upB x.gr (id - 1) (decide (1 < id))) id false) (wo (if 1 < id then s.gr ++ [((id : Int) - 1)] else s.gr) (id : Int)) ∧ (wo (if 1 < id then s.gr ++ [((id : Int) - 1)] else s.gr) (id : Int)).Nodup ∧ sumL ws (wo (if 1 < id then s.gr ++ [((id : Int) - 1)] else s.gr) (id : Int)) = sumL ws s.gr + mo - ws.getD id 0 ∧ (wo (if 1 < id then s.gr ++ [((id : Int) - 1)] else s.gr) (id : Int)).length ≤ t + 1 := by
    by_cases hi : 1 < id
    · have hni : (((id - 1 : Nat) : Int)) ∉ s.gr := fun hh => by
        have := ((h.gr _).1 hh).2.2
        rw [Int.toNat_natCast, hon _ (by omega)] at this
        cases this
      rw [if_pos hi, hcast hi, decide_eq_true hi]
      have hnd := nodup_add h.grn hni
      have hm2 : (id : Int) ∈ s.gr ++ [(((id - 1 : Nat) : Int))] := List.mem_append.2 (Or.inl hm)
      refine ⟨(h.gr.add (id - 1) (by omega)).sub id ⟨h1, h2⟩, nodup_wo _ hnd, ?_, ?_⟩
      · rw [sum_wo ws _ _ hnd hm2, sumL_app, sumL_cons, sumL_nil, Int.toNat_natCast, Int.toNat_natCast, hmo, if_pos hi]
        omega
      · have := wo_len (s.gr ++ [(((id - 1 : Nat) : Int))]) (id : Int)
        simp at this
        omega
    · rw [if_neg hi, decide_eq_false hi]
      have : upB (upB x.gr (id - 1) false) id false = upB x.gr id false := by
        funext j
        unfold upB
        by_cases hj : j = id
        · rw [if_pos hj, if_pos hj]
        · rw [if_neg hj, if_neg hj]
          by_cases hj2 : j = id - 1
          · rw [if_pos hj2, hon j hj]
          · rw [if_neg hj2]
      rw [this]
      refine ⟨h.gr.sub id ⟨h1, h2⟩, nodup_wo _ h.grn, ?_, ?_⟩
      · rw [sum_wo ws _ _ h.grn hm, Int.toNat_natCast, hmo, if_neg hi]
        omega
      · have := wo_len s.gr (id : Int)
        omega
  obtain ⟨q1, q2, q3, q4⟩ := key
  refine ⟨h.th, h.sv, q1, h.thn, q2, h.em, h.sd, ?_, ?_, h.ct, ?_, ?_, ?_, q4, h.ths, fun i => ?_, fun hh => ?_, ?_, Or.inl ?_⟩
  · show s.dn + 1 = x.dn + 1
    rw [h.dn]
  · show max s.pk (x.wd + mo) = max x.pk (x.wd + mo)
    rw [h.pk]
  · show sumL ws s.th + sumL ws (wo (if 1 < id then s.gr ++ [((id : Int) - 1)] else s.gr) (id : Int)) = x.wd + mo - ws.getD id 0
    rw [q3, ← h.wd]
    omega
  · show s.th.length ≤ t + 1
    omega
  · show s.sv.length ≤ t + 1
    omega
  · show upB (upB x.gr (id - 1) (decide (1 < id))) id false i = true → x.sd = true ∧ (i : Int) = (cs.length : Int) - (x.dn + 1)
    unfold upB
    by_cases hi : i = id
    · rw [if_pos hi]
      exact fun h => by cases h
    · rw [if_neg hi]
      by_cases hj : i = id - 1
      · intro _
        exact ⟨g1, by omega⟩
      · rw [if_neg hj, hon i hi]
        exact fun h => by cases h
  · show x.dn + 1 = 0
    have hh2 : x.sd = false := hh
    rw [g1] at hh2
    cases hh2
  · show x.wd + mo - ws.getD id 0 ≤ max x.pk (x.wd + mo)
    omega
  · show x.wd + mo - ws.getD id 0 ≤ cap
    omega
end
end Go.Proofs.Ytiejdbdbafmccaa
/- part ChRm -/
namespace Go.Proofs.Ytiejdbdbafmccaa
open Go.RowKit Go.Proofs.YtiejdbdbafmccaaW.PrintWords Go.Proofs.YtiejdbdbafmccaaW.PrintLast Go.Proofs.Ytiejdbdbafmccaa.PCh
structure RdI (g : Nat) (w : World) (A : Option Addr) (l : List Int) : Prop where
  len : l.length ≤ 9223372036854775807
  at_ : ∀ i (hi : i < l.length), ∃ b o, A = some ⟨b, o, none⟩ ∧ b < w.heap.size ∧ b ≠ g ∧ b ≠ g + 1 ∧ w.cell? ⟨b, o + i, none⟩ = some (.int .i64 l[i])
section
variable {g : Nat} {w w' : World} {A : Option Addr} {l : List Int}
theorem C_of_at {w : World} {A : Option Addr} {l : List Int} (hl : l.length ≤ 9223372036854775807) (h : ∀ i (hi : i < l.length), ∃ b o, A = some ⟨b, o, none⟩ ∧ w.cell? ⟨b, o + i, none⟩ = some (.int .i64 l[i])) : (Kd.int .i64).C w A l.length l := by
  refine ⟨rfl, hl, fun hp => ?_⟩
  obtain ⟨b, o, rfl, _⟩ := h 0 hp
  refine ⟨_, rfl, fun j p hj => ?_⟩
  obtain ⟨hjl, rfl⟩ := List.getElem?_eq_some_iff.1 hj
  obtain ⟨b', o', he, hc⟩ := h j hjl
  injection he with he
  injection he with h1 h2
  subst h1 h2
  refine ⟨[.int .i64 l[j]], rfl, rfl, fun i u hu => ?_⟩
  have hi : i = 0 := by
    have := (List.getElem?_eq_some_iff.1 hu).1
    simpa using this
  subst hi
  injection hu with hu
  subst hu
  rw [Addr.add_lit]
  show w.cell? ⟨b, o + (j * 1 + 0), none⟩ = _
  rw [Nat.mul_one, Nat.add_zero]
  exact hc
theorem RdI.C (h : RdI g w A l) : (Kd.int .i64).C w A l.length l := C_of_at h.len fun i hi => by
  obtain ⟨b, o, h1, _, _, _, h2⟩ := h.at_ i hi
  exact ⟨b, o, h1, h2⟩
theorem RdI.of_C (h : (Kd.int .i64).C w A l.length l) (hg : w.heap.size ≤ g) : RdI g w A l := ⟨h.2.1, fun i hi => by
  obtain ⟨b, o, h1, h2, h3⟩ := C_at h (by omega)
  exact ⟨b, o, h1, h2, by omega, by omega, h3 i hi⟩⟩
theorem RdI.below (h : RdI g w A l) {B : Nat} (hb : Below B w w') (hB : w.heap.size ≤ B) : RdI g w' A l := ⟨h.len, fun i hi => by
  obtain ⟨b, o, h1, h2, h3, h4, h5⟩ := h.at_ i hi
  exact ⟨b, o, h1, Nat.lt_of_lt_of_le h2 ((hb.mono hB).size), h3, h4, ((hb.cell (p := ⟨b, o + i, none⟩) (Nat.lt_of_lt_of_le h2 hB))).trans h5⟩⟩
theorem RdI.set (h : RdI g w A l) {p : Addr} (hp : p.block = g ∨ p.block = g + 1) (u : Value) : RdI g (w.setCell p u) A l := ⟨h.len, fun i hi => by
  obtain ⟨b, o, h1, h2, h3, h4, h5⟩ := h.at_ i hi
  have hf : Frm [some p.block] w (w.setCell p u) := (Frm.refl _ _).setCell (Or.inl (by simp)) u
  have hn : b ≠ p.block := by rcases hp with hp | hp <;> rw [hp] <;> assumption
  exact ⟨b, o, h1, Nat.lt_of_lt_of_le h2 hf.size, h3, h4, (hf.cell (p := ⟨b, o + i, none⟩) h2 (by simpa using hn)).trans h5⟩⟩
theorem RdI.of_R {base n c : Nat} (h : (Kd.int .i64).R 3 w base (fun _ => True) (.slice A n c) l) {cs1 cs2 : Array Value} (h1 : Blk w g 61 cs1) (h2 : Blk w (g + 1) 61 cs2) : n = l.length ∧ l.length ≤ c ∧ RdI g w A l ∧ ∀ b o, A = some ⟨b, o, none⟩ → ∃ cells, w.heap[b]? = some (.cells cells 3 (0, 0)) := by
  obtain ⟨A', c', he, hl, hC⟩ := Kd.R_reads h
  injection he with e1 e2 e3
  subst e1 e2 e3
  obtain ⟨inner, ho⟩ := Kd.R_own h
  refine ⟨rfl, hl, ⟨hC.2.1, fun i hi => ?_⟩, fun b o e => own_typed ho b (by rw [e]; simp [Value.ownBlock])⟩
  obtain ⟨b, o, h3, h4, h5⟩ := C_at hC (by omega)
  subst h3
  have hty : ∃ cells, w.heap[b]? = some (.cells cells 3 (0, 0)) := own_typed ho b (by simp [Value.ownBlock])
  obtain ⟨cells, hty⟩ := hty
  refine ⟨b, o, rfl, h4, fun e => ?_, fun e => ?_, h5 i hi⟩
  · unfold Blk at h1
    rw [← e, hty] at h1
    injection h1 with h1
    injection h1 with _ h1
    cases h1
  · unfold Blk at h2
    rw [← e, hty] at h2
    injection h2 with h2
    injection h2 with _ h2
    cases h2
end
structure LT (w : World) (A : Option Addr) (l : List Int) : Prop where
  len : l.length ≤ 9223372036854775807
  at_ : ∀ i (hi : i < l.length), ∃ b o, A = some ⟨b, o, none⟩ ∧ w.cell? ⟨b, o + i, none⟩ = some (.int .i64 l[i]) ∧ ∃ cells, w.heap[b]? = some (.cells cells 3 (0, 0))
structure RdT (g : Nat) (w : World) (A : Option Addr) (l : List Int) : Prop where
  rd : RdI g w A l
  lt : LT w A l
section
variable {g : Nat} {w w' : World} {A : Option Addr} {l : List Int}
theorem LT.C (h : LT w A l) : (Kd.int .i64).C w A l.length l := C_of_at h.len fun i hi => by
  obtain ⟨b, o, h1, h2, _⟩ := h.at_ i hi
  exact ⟨b, o, h1, h2⟩
theorem LT.nil (w : World) (A : Option Addr) : LT w A [] := ⟨by simp, fun i hi => absurd hi (Nat.not_lt_zero i)⟩
theorem LT.below (h : LT w A l) {B : Nat} (hb : Below B w w') (hB : w.heap.size ≤ B) : LT w' A l := ⟨h.len, fun i hi => by
  obtain ⟨b, o, h1, h2, cells, h3⟩ := h.at_ i hi
  have hlt : b < w.heap.size := (Array.getElem?_eq_some_iff.1 h3).1
  exact ⟨b, o, h1, (hb.cell (p := ⟨b, o + i, none⟩) (Nat.lt_of_lt_of_le hlt hB)).trans h2, cells, (hb.block b (Nat.lt_of_lt_of_le hlt hB)).trans h3⟩⟩
theorem LT.set (h : LT w A l) {t : TypeId} {cs : Array Value} {q : Nat} (hq : Blk w q t cs) (ht : t ≠ 3) (j : Nat) (u : Value) : LT (w.setCell ⟨q, j, none⟩ u) A l := ⟨h.len, fun i hi => by
  obtain ⟨b, o, h1, h2, cells, h3⟩ := h.at_ i hi
  have hne : b ≠ q := fun e => by
    subst e
    unfold Blk at hq
    rw [h3] at hq
    injection hq with hq
    injection hq with _ hq
    exact ht hq.symm
  have hlt : b < w.heap.size := (Array.getElem?_eq_some_iff.1 h3).1
  have hf : Frm [some q] w (w.setCell ⟨q, j, none⟩ u) := (Frm.refl _ _).setCell (Or.inl (by simp)) u
  exact ⟨b, o, h1, (hf.cell (p := ⟨b, o + i, none⟩) hlt (by simpa using hne)).trans h2, cells, (hf.block b hlt (by simpa using hne)).trans h3⟩⟩
theorem RdT.C (h : RdT g w A l) : (Kd.int .i64).C w A l.length l := h.rd.C
theorem RdT.below (h : RdT g w A l) {B : Nat} (hb : Below B w w') (hB : w.heap.size ≤ B) : RdT g w' A l := ⟨h.rd.below hb hB, h.lt.below hb hB⟩
theorem RdT.set (h : RdT g w A l) {p : Addr} (hp : p.block = g ∨ p.block = g + 1) (u : Value) : RdT g (w.setCell p u) A l := ⟨h.rd.set hp u, h.lt.len, fun i hi => by
  obtain ⟨b, o, h1, h2, h3, h4, _⟩ := h.rd.at_ i hi
  obtain ⟨b', o', h1', h5, cells, h6⟩ := h.lt.at_ i hi
  rw [h1] at h1'
  injection h1' with h1'
  injection h1' with e1 e2
  subst e1 e2
  have hf : Frm [some p.block] w (w.setCell p u) := (Frm.refl _ _).setCell (Or.inl (by simp)) u
  have hn : b ≠ p.block := by rcases hp with hp | hp <;> rw [hp] <;> assumption
  exact ⟨b, o, h1, (hf.cell (p := ⟨b, o + i, none⟩) h2 (by simpa using hn)).trans h5, cells, (hf.block b h2 (by simpa using hn)).trans h6⟩⟩
theorem RdT.of_LT (h : LT w A l) (hg : w.heap.size ≤ g) : RdT g w A l := ⟨RdI.of_C h.C hg, h⟩
end
def z8 : Array Value := #[.slice none 0 0, .slice none 0 0, .slice none 0 0, .int .i64 0, .int .i64 0, .int .i64 0, .int .i64 0, .int .i64 0]
def scells (At : Option Addr) (ct : Nat) (As : Option Addr) (cs' : Nat) (Ag : Option Addr) (cg : Nat) (th sv gr : List Int) (em sd dn pk co : Int) : Array Value := #[.slice At th.length ct, .slice As sv.length cs', .slice Ag gr.length cg, .int .i64 em, .int .i64 sd, .int .i64 dn, .int .i64 pk, .int .i64 co]
structure DI (w : World) (b0 o0 b1 o1 : Nat) (ws cs : List Int) (At : Option Addr) (ct : Nat) (As : Option Addr) (cs' : Nat) (Ag : Option Addr) (cg : Nat) (th sv gr : List Int) (em sd dn pk co : Int) (wr : World) : Prop where
  bx : Blk wr w.heap.size 61 (scells At ct As cs' Ag cg th sv gr em sd dn pk co)
  rb : Blk wr (w.heap.size + 1) 61 z8
  rt : RdT w.heap.size wr At th
  rs : RdT w.heap.size wr As sv
  rg : RdT w.heap.size wr Ag gr
  lt : th.length ≤ ct
  ls : sv.length ≤ cs'
  lg : gr.length ≤ cg
  rw_ : RdI w.heap.size wr (some ⟨b0, o0, none⟩) ws
  rc : RdI w.heap.size wr (some ⟨b1, o1, none⟩) cs
  bl : Below w.heap.size w wr
section
variable {w wr w' : World} {b0 o0 b1 o1 : Nat} {ws cs : List Int} {At As Ag : Option Addr} {ct cs' cg : Nat} {th sv gr : List Int} {em sd dn pk co : Int}
theorem DI.below (h : DI w b0 o0 b1 o1 ws cs At ct As cs' Ag cg th sv gr em sd dn pk co wr) (hb : Below wr.heap.size wr w') : DI w b0 o0 b1 o1 ws cs At ct As cs' Ag cg th sv gr em sd dn pk co w' :=
  ⟨h.bx.below hb h.bx.lt, h.rb.below hb h.rb.lt, h.rt.below hb (Nat.le_refl _), h.rs.below hb (Nat.le_refl _), h.rg.below hb (Nat.le_refl _), h.lt, h.ls, h.lg, h.rw_.below hb (Nat.le_refl _), h.rc.below hb (Nat.le_refl _), h.bl.trans (hb.mono h.bl.size)⟩
theorem DI.drewN (h : DI w b0 o0 b1 o1 ws cs At ct As cs' Ag cg th sv gr em sd dn pk co wr) (n : Nat) : DI w b0 o0 b1 o1 ws cs At ct As cs' Ag cg th sv gr em sd dn pk co (wr.drewN n) := h.below ⟨rfl, rfl, rfl, Nat.le_refl _, fun _ _ => rfl⟩
theorem DI.drew (h : DI w b0 o0 b1 o1 ws cs At ct As cs' Ag cg th sv gr em sd dn pk co wr) : DI w b0 o0 b1 o1 ws cs At ct As cs' Ag cg th sv gr em sd dn pk co wr.drew := h.below ⟨rfl, rfl, rfl, Nat.le_refl _, fun _ _ => rfl⟩
theorem DI.setBox (h : DI w b0 o0 b1 o1 ws cs At ct As cs' Ag cg th sv gr em sd dn pk co wr) {i : Nat} {v : Value} {At2 As2 Ag2 : Option Addr} {ct2 cs2 cg2 : Nat} {th2 sv2 gr2 : List Int} {em2 sd2 dn2 pk2 co2 : Int} (hc : (scells At ct As cs' Ag cg th sv gr em sd dn pk co).setIfInBounds i v = scells At2 ct2 As2 cs2 Ag2 cg2 th2 sv2 gr2 em2 sd2 dn2 pk2 co2) (rt : RdT w.heap.size wr At2 th2) (rs : RdT w.heap.size wr As2 sv2) (rg : RdT w.heap.size wr Ag2 gr2) (lt : th2.length ≤ ct2) (ls : sv2.length ≤ cs2) (lg : gr2.length ≤ cg2) :
    DI w b0 o0 b1 o1 ws cs At2 ct2 As2 cs2 Ag2 cg2 th2 sv2 gr2 em2 sd2 dn2 pk2 co2 (wr.setCell ⟨w.heap.size, i, none⟩ v) := by
  have q := h.bx.set_ i v
  rw [hc] at q
  have n1 : w.heap.size + 1 ≠ w.heap.size := by omega
  exact ⟨q, h.rb.far (p := ⟨w.heap.size, i, none⟩) n1 v, rt.set (Or.inl rfl) v, rs.set (Or.inl rfl) v, rg.set (Or.inl rfl) v, lt, ls, lg, h.rw_.set (Or.inl rfl) v, h.rc.set (Or.inl rfl) v, h.bl.setCell (p := ⟨w.heap.size, i, none⟩) (Nat.le_refl _) v⟩
theorem DI.th_ (h : DI w b0 o0 b1 o1 ws cs At ct As cs' Ag cg th sv gr em sd dn pk co wr) {A : Option Addr} {c : Nat} {l : List Int} (hr : RdT w.heap.size wr A l) (hl : l.length ≤ c) : DI w b0 o0 b1 o1 ws cs A c As cs' Ag cg l sv gr em sd dn pk co (wr.setCell ⟨w.heap.size, 0, none⟩ (.slice A l.length c)) := h.setBox rfl hr h.rs h.rg hl h.ls h.lg
theorem DI.sv_ (h : DI w b0 o0 b1 o1 ws cs At ct As cs' Ag cg th sv gr em sd dn pk co wr) {A : Option Addr} {c : Nat} {l : List Int} (hr : RdT w.heap.size wr A l) (hl : l.length ≤ c) : DI w b0 o0 b1 o1 ws cs At ct A c Ag cg th l gr em sd dn pk co (wr.setCell ⟨w.heap.size, 1, none⟩ (.slice A l.length c)) := h.setBox rfl h.rt hr h.rg h.lt hl h.lg
theorem DI.gr_ (h : DI w b0 o0 b1 o1 ws cs At ct As cs' Ag cg th sv gr em sd dn pk co wr) {A : Option Addr} {c : Nat} {l : List Int} (hr : RdT w.heap.size wr A l) (hl : l.length ≤ c) : DI w b0 o0 b1 o1 ws cs At ct As cs' A c th sv l em sd dn pk co (wr.setCell ⟨w.heap.size, 2, none⟩ (.slice A l.length c)) := h.setBox rfl h.rt h.rs hr h.lt h.ls hl
theorem DI.em_ (h : DI w b0 o0 b1 o1 ws cs At ct As cs' Ag cg th sv gr em sd dn pk co wr) (v : Int) : DI w b0 o0 b1 o1 ws cs At ct As cs' Ag cg th sv gr v sd dn pk co (wr.setCell ⟨w.heap.size, 3, none⟩ (.int .i64 v)) := h.setBox rfl h.rt h.rs h.rg h.lt h.ls h.lg
theorem DI.sd_ (h : DI w b0 o0 b1 o1 ws cs At ct As cs' Ag cg th sv gr em sd dn pk co wr) (v : Int) : DI w b0 o0 b1 o1 ws cs At ct As cs' Ag cg th sv gr em v dn pk co (wr.setCell ⟨w.heap.size, 4, none⟩ (.int .i64 v)) := h.setBox rfl h.rt h.rs h.rg h.lt h.ls h.lg
theorem DI.dn_ (h : DI w b0 o0 b1 o1 ws cs At ct As cs' Ag cg th sv gr em sd dn pk co wr) (v : Int) : DI w b0 o0 b1 o1 ws cs At ct As cs' Ag cg th sv gr em sd v pk co (wr.setCell ⟨w.heap.size, 5, none⟩ (.int .i64 v)) := h.setBox rfl h.rt h.rs h.rg h.lt h.ls h.lg
theorem DI.pk_ (h : DI w b0 o0 b1 o1 ws cs At ct As cs' Ag cg th sv gr em sd dn pk co wr) (v : Int) : DI w b0 o0 b1 o1 ws cs At ct As cs' Ag cg th sv gr em sd dn v co (wr.setCell ⟨w.heap.size, 6, none⟩ (.int .i64 v)) := h.setBox rfl h.rt h.rs h.rg h.lt h.ls h.lg
theorem DI.co_ (h : DI w b0 o0 b1 o1 ws cs At ct As cs' Ag cg th sv gr em sd dn pk co wr) (v : Int) : DI w b0 o0 b1 o1 ws cs At ct As cs' Ag cg th sv gr em sd dn pk v (wr.setCell ⟨w.heap.size, 7, none⟩ (.int .i64 v)) := h.setBox rfl h.rt h.rs h.rg h.lt h.ls h.lg
theorem DI.k0 (h : DI w b0 o0 b1 o1 ws cs At ct As cs' Ag cg th sv gr em sd dn pk co wr) : wr.cell? ⟨w.heap.size, 0, none⟩ = some (.slice At th.length ct) := h.bx.cell 0
theorem DI.k1 (h : DI w b0 o0 b1 o1 ws cs At ct As cs' Ag cg th sv gr em sd dn pk co wr) : wr.cell? ⟨w.heap.size, 1, none⟩ = some (.slice As sv.length cs') := h.bx.cell 1
theorem DI.k2 (h : DI w b0 o0 b1 o1 ws cs At ct As cs' Ag cg th sv gr em sd dn pk co wr) : wr.cell? ⟨w.heap.size, 2, none⟩ = some (.slice Ag gr.length cg) := h.bx.cell 2
theorem DI.k3 (h : DI w b0 o0 b1 o1 ws cs At ct As cs' Ag cg th sv gr em sd dn pk co wr) : wr.cell? ⟨w.heap.size, 3, none⟩ = some (.int .i64 em) := h.bx.cell 3
theorem DI.k4 (h : DI w b0 o0 b1 o1 ws cs At ct As cs' Ag cg th sv gr em sd dn pk co wr) : wr.cell? ⟨w.heap.size, 4, none⟩ = some (.int .i64 sd) := h.bx.cell 4
theorem DI.k5 (h : DI w b0 o0 b1 o1 ws cs At ct As cs' Ag cg th sv gr em sd dn pk co wr) : wr.cell? ⟨w.heap.size, 5, none⟩ = some (.int .i64 dn) := h.bx.cell 5
theorem DI.k6 (h : DI w b0 o0 b1 o1 ws cs At ct As cs' Ag cg th sv gr em sd dn pk co wr) : wr.cell? ⟨w.heap.size, 6, none⟩ = some (.int .i64 pk) := h.bx.cell 6
theorem DI.k7 (h : DI w b0 o0 b1 o1 ws cs At ct As cs' Ag cg th sv gr em sd dn pk co wr) : wr.cell? ⟨w.heap.size, 7, none⟩ = some (.int .i64 co) := h.bx.cell 7
theorem DI.r0 (h : DI w b0 o0 b1 o1 ws cs At ct As cs' Ag cg th sv gr em sd dn pk co wr) : wr.cell? ⟨w.heap.size + 1, 0, none⟩ = some (.slice none 0 0) := h.rb.cell 0
theorem DI.r1 (h : DI w b0 o0 b1 o1 ws cs At ct As cs' Ag cg th sv gr em sd dn pk co wr) : wr.cell? ⟨w.heap.size + 1, 1, none⟩ = some (.slice none 0 0) := h.rb.cell 1
theorem DI.r2 (h : DI w b0 o0 b1 o1 ws cs At ct As cs' Ag cg th sv gr em sd dn pk co wr) : wr.cell? ⟨w.heap.size + 1, 2, none⟩ = some (.slice none 0 0) := h.rb.cell 2
theorem DI.r3 (h : DI w b0 o0 b1 o1 ws cs At ct As cs' Ag cg th sv gr em sd dn pk co wr) : wr.cell? ⟨w.heap.size + 1, 3, none⟩ = some (.int .i64 0) := h.rb.cell 3
theorem DI.r4 (h : DI w b0 o0 b1 o1 ws cs At ct As cs' Ag cg th sv gr em sd dn pk co wr) : wr.cell? ⟨w.heap.size + 1, 4, none⟩ = some (.int .i64 0) := h.rb.cell 4
theorem DI.r5 (h : DI w b0 o0 b1 o1 ws cs At ct As cs' Ag cg th sv gr em sd dn pk co wr) : wr.cell? ⟨w.heap.size + 1, 5, none⟩ = some (.int .i64 0) := h.rb.cell 5
theorem DI.r6 (h : DI w b0 o0 b1 o1 ws cs At ct As cs' Ag cg th sv gr em sd dn pk co wr) : wr.cell? ⟨w.heap.size + 1, 6, none⟩ = some (.int .i64 0) := h.rb.cell 6
theorem DI.r7 (h : DI w b0 o0 b1 o1 ws cs At ct As cs' Ag cg th sv gr em sd dn pk co wr) : wr.cell? ⟨w.heap.size + 1, 7, none⟩ = some (.int .i64 0) := h.rb.cell 7
theorem DI.kz (h : DI w b0 o0 b1 o1 ws cs At ct As cs' Ag cg th sv gr em sd dn pk co wr) (i : Nat) : wr.frozen? ⟨w.heap.size, i, none⟩ = false := h.bx.frozen i
theorem DI.rz (h : DI w b0 o0 b1 o1 ws cs At ct As cs' Ag cg th sv gr em sd dn pk co wr) (i : Nat) : wr.frozen? ⟨w.heap.size + 1, i, none⟩ = false := h.rb.frozen i
theorem RdI.get {g b o : Nat} {wr : World} {l : List Int} (h : RdI g wr (some ⟨b, o, none⟩) l) {i : Nat} (hi : i < l.length) : wr.cell? ⟨b, o + i, none⟩ = some (.int .i64 (l.getD i 0)) := by
  obtain ⟨b', o', he, _, _, _, hc⟩ := h.at_ i hi
  injection he with he
  injection he with e1 e2
  subst e1 e2
  rw [hc, getD_at l i hi]
theorem DI.hasC (h : DI w b0 o0 b1 o1 ws cs At ct As cs' Ag cg th sv gr em sd dn pk co wr) (x : Int) (hl : th.length ≤ 1000000 ∧ sv.length ≤ 1000000 ∧ gr.length ≤ 1000000) :
    (Calls Try.prog 35 #[.slice At th.length ct, .int .i64 x] wr fun e w' => e = .returned (.bool (decide (x ∈ th))) ∧ Drawn0 wr w') ∧
    (Calls Try.prog 35 #[.slice As sv.length cs', .int .i64 x] wr fun e w' => e = .returned (.bool (decide (x ∈ sv))) ∧ Drawn0 wr w') ∧
    (Calls Try.prog 35 #[.slice Ag gr.length cg, .int .i64 x] wr fun e w' => e = .returned (.bool (decide (x ∈ gr))) ∧ Drawn0 wr w') := by
  obtain ⟨k1, h1⟩ := has_ev th x hl.1
  obtain ⟨k2, h2⟩ := has_ev sv x hl.2.1
  obtain ⟨k3, h3⟩ := has_ev gr x hl.2.2
  exact ⟨athanorref18_Has.calls k1 At ct th x _ wr h.rt.C h.lt h1, athanorref18_Has.calls k2 As cs' sv x _ wr h.rs.C h.ls h2, athanorref18_Has.calls k3 Ag cg gr x _ wr h.rg.C h.lg h3⟩
theorem DI.sumC (h : DI w b0 o0 b1 o1 ws cs At ct As cs' Ag cg th sv gr em sd dn pk co wr) (ht : Rt ws cs) {c0 : Nat} (hc0 : ws.length ≤ c0) (hl : th.length ≤ 1000000 ∧ gr.length ≤ 1000000) (h1 : ∀ i ∈ th, 0 ≤ i ∧ i < (ws.length : Int)) (h2 : ∀ i ∈ gr, 0 ≤ i ∧ i < (ws.length : Int)) :
    (Calls Try.prog 36 #[.slice (some ⟨b0, o0, none⟩) ws.length c0, .slice At th.length ct] wr fun e w' => e = .returned (.int .i64 (sumL ws th)) ∧ Drawn0 wr w') ∧
    (Calls Try.prog 36 #[.slice (some ⟨b0, o0, none⟩) ws.length c0, .slice Ag gr.length cg] wr fun e w' => e = .returned (.int .i64 (sumL ws gr)) ∧ Drawn0 wr w') := by
  obtain ⟨k1, q1⟩ := sum_ev ht th hl.1 h1
  obtain ⟨k2, q2⟩ := sum_ev ht gr hl.2 h2
  exact ⟨athanorref20_sum.calls k1 _ c0 ws At ct th _ wr h.rw_.C hc0 h.rt.C h.lt q1, athanorref20_sum.calls k2 _ c0 ws Ag cg gr _ wr h.rw_.C hc0 h.rg.C h.lg q2⟩
structure NewR (w : World) (b0 o0 b1 o1 : Nat) (ws cs : List Int) (At : Option Addr) (ct : Nat) (As : Option Addr) (cs' : Nat) (Ag : Option Addr) (cg : Nat) (th sv gr : List Int) (em sd dn pk co : Int) (l : List Int) (e : Ending) (w' : World) : Prop where
  ex : ∃ A c, e = .returned (.slice A l.length c) ∧ l.length ≤ c ∧ RdT w.heap.size w' A l ∧ DI w b0 o0 b1 o1 ws cs At ct As cs' Ag cg th sv gr em sd dn pk co w'
theorem NewR.of {l : List Int} {e : Ending} (h : DI w b0 o0 b1 o1 ws cs At ct As cs' Ag cg th sv gr em sd dn pk co wr) {v : Value} (he : e = .returned v) (hr : (Kd.int .i64).R 3 w' wr.heap.size (fun _ => True) v l) (hb : Below wr.heap.size wr w') : NewR w b0 o0 b1 o1 ws cs At ct As cs' Ag cg th sv gr em sd dn pk co l e w' := by
  obtain ⟨A, c, rfl⟩ := Kd.R_slice hr
  have hD := h.below hb
  obtain ⟨e1, e2, e3, e4⟩ := RdI.of_R hr hD.bx hD.rb
  refine ⟨A, c, he, e2, ⟨e3, e3.len, fun i hi => ?_⟩, hD⟩
  obtain ⟨b, o, q1, _, _, _, q2⟩ := e3.at_ i hi
  exact ⟨b, o, q1, q2, e4 b o q1⟩
theorem DI.withC (h : DI w b0 o0 b1 o1 ws cs At ct As cs' Ag cg th sv gr em sd dn pk co wr) {A : Option Addr} {c : Nat} {l : List Int} (x : Int) (hr : RdT w.heap.size wr A l) (hc : l.length ≤ c) (hl : l.length ≤ 1000000) : Calls Try.prog 37 #[.slice A l.length c, .int .i64 x] wr (NewR w b0 o0 b1 o1 ws cs At ct As cs' Ag cg th sv gr em sd dn pk co (l ++ [x])) :=
  (athanorref20_with.calls A c l x _ wr hr.C hc (with_f l x hl)).mono fun _ _ ⟨_, he, hR, hb⟩ => NewR.of h he hR hb
theorem DI.withoutC (h : DI w b0 o0 b1 o1 ws cs At ct As cs' Ag cg th sv gr em sd dn pk co wr) {A : Option Addr} {c : Nat} {l : List Int} (x : Int) (hr : RdT w.heap.size wr A l) (hc : l.length ≤ c) (hl : l.length ≤ 1000000) : Calls Try.prog 38 #[.slice A l.length c, .int .i64 x] wr (NewR w b0 o0 b1 o1 ws cs At ct As cs' Ag cg th sv gr em sd dn pk co (wo l x)) := by
  obtain ⟨k, q⟩ := without_ev l x hl
  exact (athanorref20_without.calls k A c l x _ wr hr.C hc q).mono fun _ _ ⟨_, he, hR, hb⟩ => NewR.of h he hR hb
end
theorem q1_ {P : Program} {f : FuncId} {args : Array Value} {W : World} {n : Nat} {v : Value} (h : ∀ j, Calls P f args (W.drewN j) fun e w' => e = .returned v ∧ Drawn0 (W.drewN j) w') : Calls P f args (W.drewN n) fun e w'' => e = .returned v ∧ ∃ m, w'' = W.drewN m :=
  (h n).mono fun _ _ ⟨he, ⟨m, hm⟩⟩ => ⟨he, n + m, by rw [hm, World.drewN_drewN]⟩
theorem q2_ {P : Program} {f : FuncId} {args : Array Value} {W : World} {k n : Nat} {v : Value} (h : ∀ j, Calls P f args (W.drewN j) fun e w' => e = .returned v ∧ Drawn0 (W.drewN j) w') : Calls P f args (W.drewN (k + n)) fun e w'' => e = .returned v ∧ ∃ m, w'' = W.drewN (k + m) :=
  (h (k + n)).mono fun _ _ ⟨he, ⟨m, hm⟩⟩ => ⟨he, n + m, by rw [hm, World.drewN_drewN, Nat.add_assoc]⟩
structure DoR (w : World) (ws cs : List Int) (cap : Int) (t : Nat) (R : Wk × Int) (e : Ending) (w' : World) : Prop where
  ex : ∃ (At : Option Addr) (ct : Nat) (As : Option Addr) (cs' : Nat) (Ag : Option Addr) (cg : Nat) (s : RSt), e = .returned (.tuple #[.agg (scells At ct As cs' Ag cg s.th s.sv s.gr s.em s.sd s.dn s.pk s.ct), .int .i64 R.2]) ∧ (R.2 = 0 → Rel ws cs.length cap t s R.1 ∧ LT w' At s.th ∧ LT w' As s.sv ∧ LT w' Ag s.gr ∧ s.th.length ≤ ct ∧ s.sv.length ≤ cs' ∧ s.gr.length ≤ cg)
  bl : Below w.heap.size w w'
theorem DI.done {w wr : World} {b0 o0 b1 o1 : Nat} {ws cs : List Int} {At As Ag : Option Addr} {ct cs' cg : Nat} {th sv gr : List Int} {em sd dn pk co : Int} {cap : Int} {t : Nat} {R : Wk × Int} {E : Int} (h : DI w b0 o0 b1 o1 ws cs At ct As cs' Ag cg th sv gr em sd dn pk co wr) (hE : R.2 = E) (hR : R.2 = 0 → Rel ws cs.length cap t ⟨th, sv, gr, em, sd, dn, pk, co⟩ R.1) :
    DoR w ws cs cap t R (.returned (.tuple #[.agg #[.slice At th.length ct, .slice As sv.length cs', .slice Ag gr.length cg, .int .i64 em, .int .i64 sd, .int .i64 dn, .int .i64 pk, .int .i64 co], .int .i64 E]))
      ((((((((wr.setCell ⟨w.heap.size + 1, 0, none⟩ (.slice At th.length ct)).setCell ⟨w.heap.size + 1, 1, none⟩ (.slice As sv.length cs')).setCell ⟨w.heap.size + 1, 2, none⟩ (.slice Ag gr.length cg)).setCell ⟨w.heap.size + 1, 3, none⟩ (.int .i64 em)).setCell ⟨w.heap.size + 1, 4, none⟩ (.int .i64 sd)).setCell ⟨w.heap.size + 1, 5, none⟩ (.int .i64 dn)).setCell ⟨w.heap.size + 1, 6, none⟩ (.int .i64 pk)).setCell ⟨w.heap.size + 1, 7, none⟩ (.int .i64 co)) := by
  have st : ∀ {A : Option Addr} {l : List Int}, RdT w.heap.size wr A l → RdT w.heap.size ((((((((wr.setCell ⟨w.heap.size + 1, 0, none⟩ (.slice At th.length ct)).setCell ⟨w.heap.size + 1, 1, none⟩ (.slice As sv.length cs')).setCell ⟨w.heap.size + 1, 2, none⟩ (.slice Ag gr.length cg)).setCell ⟨w.heap.size + 1, 3, none⟩ (.int .i64 em)).setCell ⟨w.heap.size + 1, 4, none⟩ (.int .i64 sd)).setCell ⟨w.heap.size + 1, 5, none⟩ (.int .i64 dn)).setCell ⟨w.heap.size + 1, 6, none⟩ (.int .i64 pk)).setCell ⟨w.heap.size + 1, 7, none⟩ (.int .i64 co)) A l := fun q =>
    (((((((q.set (p := ⟨w.heap.size + 1, 0, none⟩) (Or.inr rfl) _).set (p := ⟨w.heap.size + 1, 1, none⟩) (Or.inr rfl) _).set (p := ⟨w.heap.size + 1, 2, none⟩) (Or.inr rfl) _).set (p := ⟨w.heap.size + 1, 3, none⟩) (Or.inr rfl) _).set (p := ⟨w.heap.size + 1, 4, none⟩) (Or.inr rfl) _).set (p := ⟨w.heap.size + 1, 5, none⟩) (Or.inr rfl) _).set (p := ⟨w.heap.size + 1, 6, none⟩) (Or.inr rfl) _).set (p := ⟨w.heap.size + 1, 7, none⟩) (Or.inr rfl) _
  have n2 : w.heap.size ≤ w.heap.size + 1 := by omega
  exact ⟨⟨At, ct, As, cs', Ag, cg, ⟨th, sv, gr, em, sd, dn, pk, co⟩, by rw [hE]; rfl, fun h0 => ⟨hR h0, (st h.rt).lt, (st h.rs).lt, (st h.rg).lt, h.lt, h.ls, h.lg⟩⟩,
    (((((((h.bl.setCell (p := ⟨w.heap.size + 1, 0, none⟩) n2 _).setCell (p := ⟨w.heap.size + 1, 1, none⟩) n2 _).setCell (p := ⟨w.heap.size + 1, 2, none⟩) n2 _).setCell (p := ⟨w.heap.size + 1, 3, none⟩) n2 _).setCell (p := ⟨w.heap.size + 1, 4, none⟩) n2 _).setCell (p := ⟨w.heap.size + 1, 5, none⟩) n2 _).setCell (p := ⟨w.heap.size + 1, 6, none⟩) n2 _).setCell (p := ⟨w.heap.size + 1, 7, none⟩) n2 _⟩
structure DoPre (w : World) (A0 : Option Addr) (c0 : Nat) (A1 : Option Addr) (c1 : Nat) (ws cs : List Int) (cap : Int) (At : Option Addr) (ct : Nat) (As : Option Addr) (cs' : Nat) (Ag : Option Addr) (cg : Nat) (th sv gr : List Int) (em sd dn pk co : Int) (t : Nat) (x : Wk) : Prop where
  r0 : (Kd.int .i64).C w A0 ws.length ws
  c0 : ws.length ≤ c0
  r1 : (Kd.int .i64).C w A1 cs.length cs
  c1 : cs.length ≤ c1
  rt : LT w At th
  rs : LT w As sv
  rg : LT w Ag gr
  lt : th.length ≤ ct
  ls : sv.length ≤ cs'
  lg : gr.length ≤ cg
  rel : Rel ws cs.length cap t ⟨th, sv, gr, em, sd, dn, pk, co⟩ x
  bd : BdW t x
  tt : t ≤ 200000
  rt_ : Rt ws cs
  cp : -9223372036854775808 ≤ cap ∧ cap ≤ 9223372036854775807
theorem DoPre.start {w : World} {b0 o0 : Nat} {c0 : Nat} {b1 o1 : Nat} {c1 : Nat} {ws cs : List Int} {cap : Int} {At : Option Addr} {ct : Nat} {As : Option Addr} {cs' : Nat} {Ag : Option Addr} {cg : Nat} {th sv gr : List Int} {em sd dn pk co : Int} {t : Nat} {x : Wk} (h : DoPre w (some ⟨b0, o0, none⟩) c0 (some ⟨b1, o1, none⟩) c1 ws cs cap At ct As cs' Ag cg th sv gr em sd dn pk co t x) {W : World} (hW : W = (w.alloc (.cells (scells At ct As cs' Ag cg th sv gr em sd dn pk co) 61)).alloc (.cells z8 61)) : DI w b0 o0 b1 o1 ws cs At ct As cs' Ag cg th sv gr em sd dn pk co W := by
  have hb : Below w.heap.size w W := by rw [hW]; exact ((Below.refl _ _).alloc (Nat.le_refl _) _).alloc (by simp) _
  have q : ∀ {A : Option Addr} {l : List Int}, (Kd.int .i64).C w A l.length l → RdI w.heap.size W A l := fun hc => (RdI.of_C hc (Nat.le_refl _)).below hb (Nat.le_refl _)
  have q2 : ∀ {A : Option Addr} {l : List Int}, LT w A l → RdT w.heap.size W A l := fun hc => (RdT.of_LT hc (Nat.le_refl _)).below hb (Nat.le_refl _)
  refine ⟨by rw [hW]; exact (Blk.new _ _ _).alloc _, ?_, q2 h.rt, q2 h.rs, q2 h.rg, h.lt, h.ls, h.lg, q h.r0, q h.r1, hb⟩
  rw [hW]
  have := Blk.new (w.alloc (.cells (scells At ct As cs' Ag cg th sv gr em sd dn pk co) 61)) 61 z8
  simpa using this
theorem DoPre.ix {w : World} {A0 : Option Addr} {c0 : Nat} {A1 : Option Addr} {c1 : Nat} {ws cs : List Int} {cap : Int} {At : Option Addr} {ct : Nat} {As : Option Addr} {cs' : Nat} {Ag : Option Addr} {cg : Nat} {th sv gr : List Int} {em sd dn pk co : Int} {t : Nat} {x : Wk} (h : DoPre w A0 c0 A1 c1 ws cs cap At ct As cs' Ag cg th sv gr em sd dn pk co t x) : (∀ i ∈ th, 0 ≤ i ∧ i < (ws.length : Int)) ∧ (∀ i ∈ gr, 0 ≤ i ∧ i < (ws.length : Int)) := by
  have hl := h.rt_.len
  exact ⟨fun i hi => by have := (h.rel.th i).1 hi; omega, fun i hi => by have := (h.rel.gr i).1 hi; omega⟩
structure DoF (w : World) (b0 o0 c0 b1 o1 : Nat) (ws cs : List Int) (At : Option Addr) (ct : Nat) (As : Option Addr) (cs' : Nat) (Ag : Option Addr) (cg : Nat) (th sv gr : List Int) (em sd dn pk co : Int) (x : Wk) (id : Nat) (RD : Bool) : Prop where
  has : ∀ (y : Int) (wr : World), DI w b0 o0 b1 o1 ws cs At ct As cs' Ag cg th sv gr em sd dn pk co wr →
    (Calls Try.prog 35 #[.slice At th.length ct, .int .i64 y] wr fun e w' => e = .returned (.bool (decide (y ∈ th))) ∧ Drawn0 wr w') ∧
    (Calls Try.prog 35 #[.slice As sv.length cs', .int .i64 y] wr fun e w' => e = .returned (.bool (decide (y ∈ sv))) ∧ Drawn0 wr w') ∧
    (Calls Try.prog 35 #[.slice Ag gr.length cg, .int .i64 y] wr fun e w' => e = .returned (.bool (decide (y ∈ gr))) ∧ Drawn0 wr w')
  rd : ∀ wr : World, DI w b0 o0 b1 o1 ws cs At ct As cs' Ag cg th sv gr em sd dn pk co wr → Calls Try.prog 35 #[.slice At th.length ct, .int .i64 ((id : Int) - 1)] wr fun e w' => e = .returned (.bool RD) ∧ Drawn0 wr w'
  rdy : 1 ≤ id → rdyB x id = (decide (id = 1) || RD)
  l3 : th.length ≤ 200000 ∧ sv.length ≤ 200000 ∧ gr.length ≤ 200000
  sa : 0 ≤ sumL ws th
  sb : 0 ≤ sumL ws gr
  sw : sumL ws th + sumL ws gr = x.wd
  wd : x.wd ≤ 26214400000
theorem DoPre.facts {w : World} {b0 o0 : Nat} {c0 : Nat} {b1 o1 : Nat} {c1 : Nat} {ws cs : List Int} {cap : Int} {At : Option Addr} {ct : Nat} {As : Option Addr} {cs' : Nat} {Ag : Option Addr} {cg : Nat} {th sv gr : List Int} {em sd dn pk co : Int} {t : Nat} {x : Wk} (h : DoPre w (some ⟨b0, o0, none⟩) c0 (some ⟨b1, o1, none⟩) c1 ws cs cap At ct As cs' Ag cg th sv gr em sd dn pk co t x) (id : Nat) (hid : id ≤ cs.length) :
    ∃ RD, DoF w b0 o0 c0 b1 o1 ws cs At ct As cs' Ag cg th sv gr em sd dn pk co x id RD := by
  have ht := h.rt_
  have hR := h.rel
  have htt := h.tt
  have hb := h.bd.wd
  have q1 := hR.lt
  have q2 := hR.ls
  have q3 := hR.lg
  simp only at q1 q2 q3
  refine ⟨decide (((id : Int) - 1) ∈ th), ⟨fun y wr hr => hr.hasC y (by omega), fun wr hr => (hr.hasC _ (by omega)).1, fun h1 => ?_, by omega, (sumL_bd ht th).1, (sumL_bd ht gr).1, hR.wd, by omega⟩⟩
  unfold rdyB
  by_cases hi : id = 1
  · rw [decide_eq_true hi, Bool.true_or, Bool.true_or]
  · have q := hR.th.has (id - 1) (by omega) (by omega)
    rw [show ((id - 1 : Nat) : Int) = (id : Int) - 1 from by omega] at q
    rw [decide_eq_false hi, Bool.false_or, Bool.false_or]
    exact q.symm
theorem DoPre.sum {w : World} {b0 o0 : Nat} {c0 : Nat} {b1 o1 : Nat} {c1 : Nat} {ws cs : List Int} {cap : Int} {At : Option Addr} {ct : Nat} {As : Option Addr} {cs' : Nat} {Ag : Option Addr} {cg : Nat} {th sv gr : List Int} {em sd dn pk co : Int} {t : Nat} {x : Wk} (h : DoPre w (some ⟨b0, o0, none⟩) c0 (some ⟨b1, o1, none⟩) c1 ws cs cap At ct As cs' Ag cg th sv gr em sd dn pk co t x) {wr : World} {At2 As2 Ag2 : Option Addr} {ct2 cs2 cg2 : Nat} {th2 sv2 gr2 : List Int} {em2 sd2 dn2 pk2 co2 : Int} (hr : DI w b0 o0 b1 o1 ws cs At2 ct2 As2 cs2 Ag2 cg2 th2 sv2 gr2 em2 sd2 dn2 pk2 co2 wr) (hl : th2.length ≤ 1000000 ∧ gr2.length ≤ 1000000) (h1 : ∀ i ∈ th2, 1 ≤ i ∧ i ≤ (cs.length : Int)) (h2 : ∀ i ∈ gr2, 1 ≤ i ∧ i ≤ (cs.length : Int)) :
    (Calls Try.prog 36 #[.slice (some ⟨b0, o0, none⟩) ws.length c0, .slice At2 th2.length ct2] wr fun e w' => e = .returned (.int .i64 (sumL ws th2)) ∧ Drawn0 wr w') ∧
    (Calls Try.prog 36 #[.slice (some ⟨b0, o0, none⟩) ws.length c0, .slice Ag2 gr2.length cg2] wr fun e w' => e = .returned (.int .i64 (sumL ws gr2)) ∧ Drawn0 wr w') := by
  have hl2 := h.rt_.len
  exact hr.sumC h.rt_ h.c0 hl (fun i hi => by have := h1 i hi; omega) (fun i hi => by have := h2 i hi; omega)
end Go.Proofs.Ytiejdbdbafmccaa
/- part ChRf1 -/
namespace Go.Proofs.Ytiejdbdbafmccaa
open Go.RowKit Go.Proofs.YtiejdbdbafmccaaW.PrintWords Go.Proofs.YtiejdbdbafmccaaW.PrintLast Go.Proofs.Ytiejdbdbafmccaa.PCh
set_option maxRecDepth 100000 in
set_option maxHeartbeats 8000000 in
theorem do_good12 {w : World} {A0 : Option Addr} {c0 : Nat} {A1 : Option Addr} {c1 : Nat} {ws cs : List Int} {cap : Int} {At : Option Addr} {ct : Nat} {As : Option Addr} {cs' : Nat} {Ag : Option Addr} {cg : Nat} {th sv gr : List Int} {em sd dn pk co : Int} {t : Nat} {x : Wk} (h : DoPre w A0 c0 A1 c1 ws cs cap At ct As cs' Ag cg th sv gr em sd dn pk co t x) (k : Int) (hk12 : k = 1 ∨ k = 2) (id : Nat) (hk : OkI cs.length k id) (hmy : mayB x cs.length k id = true) :
    Calls Try.prog 24 #[.slice A0 ws.length c0, .slice A1 cs.length c1, .int .i64 cap, .agg (scells At ct As cs' Ag cg th sv gr em sd dn pk co), .int .i64 k, .int .i64 (id : Int)] w (DoR w ws cs cap (t + 1) (doW x ws cs cap k id)) := by
  have ht := h.rt_
  have hlen := ht.len
  have hlo := ht.lo
  have hhi := ht.hi
  have hin := hk.idn
  have hi1 := hk.id0 (by omega) (by omega)
  have hcp := h.cp
  obtain ⟨b0, o0, e0, _, _⟩ := C_at h.r0 (by omega)
  obtain ⟨b1, o1, e1, _, _⟩ := C_at h.r1 (by omega)
  subst e0
  subst e1
  obtain ⟨W, hW⟩ : ∃ W, W = (w.alloc (.cells (scells At ct As cs' Ag cg th sv gr em sd dn pk co) 61)).alloc (.cells z8 61) := ⟨_, rfl⟩
  have hD := h.start hW
  obtain ⟨RD, hF⟩ := h.facts id hin
  have HX0 : Hid (∀ wr, RdI w.heap.size wr (some ⟨b0, o0, none⟩) ws → wr.cell? ⟨b0, o0 + id, none⟩ = some (.int .i64 (ws.getD id 0))) := Lib.hid fun wr hr => hr.get (by omega)
  have HX1 : Hid (∀ wr, RdI w.heap.size wr (some ⟨b1, o1, none⟩) cs → wr.cell? ⟨b1, o1 + (id - 1), none⟩ = some (.int .i64 (cs.getD (id - 1) 0))) := Lib.hid fun wr hr => hr.get (by omega)
  have HRD := Lib.hid hF.rd
  have HSV : Hid (∀ wr, DI w b0 o0 b1 o1 ws cs At ct As cs' Ag cg th sv gr em sd dn pk co wr → Calls Try.prog 35 #[.slice As sv.length cs', .int .i64 (id : Int)] wr fun e w' => e = .returned (.bool (x.sv id)) ∧ Drawn0 wr w') := Lib.hid fun wr hr => by
    have q := (hF.has (id : Int) wr hr).2.1
    rw [show decide ((id : Int) ∈ sv) = x.sv id from h.rel.sv.has id hi1 hin] at q
    exact q
  have HTH : Hid (∀ wr, DI w b0 o0 b1 o1 ws cs At ct As cs' Ag cg th sv gr em sd dn pk co wr → Calls Try.prog 35 #[.slice At th.length ct, .int .i64 (id : Int)] wr fun e w' => e = .returned (.bool (x.th id)) ∧ Drawn0 wr w') := Lib.hid fun wr hr => by
    have q := (hF.has (id : Int) wr hr).1
    rw [show decide ((id : Int) ∈ th) = x.th id from h.rel.th.has id hi1 hin] at q
    exact q
  have hrdy := hF.rdy hi1
  have hths := h.rel.ths id
  have HDONE : Hid (∀ (E : Int) (wr : World), doW x ws cs cap k id = (x, E) → E ≠ 0 → DI w b0 o0 b1 o1 ws cs At ct As cs' Ag cg th sv gr em sd dn pk co wr → _) := Lib.hid fun E wr hE h0 (hr : DI w b0 o0 b1 o1 ws cs At ct As cs' Ag cg th sv gr em sd dn pk co wr) => hr.done (cap := cap) (t := t + 1) (R := doW x ws cs cap k id) (E := E) (by rw [hE]) (fun hh => absurd (by rw [hE] at hh; exact hh) h0)
  have i1 : (1 : Int) ≤ (id : Int) := by omega
  have i2 : (id : Int) ≤ 64 := by omega
  have i3 : (id : Int) < (ws.length : Int) := by omega
  have i4 : (0 : Int) ≤ (id : Int) - 1 := by omega
  have i5 : (id : Int) - 1 < (cs.length : Int) := by omega
  have i6 : ((id : Int) - 1).toNat = id - 1 := by omega
  have HW := Lib.hid (show W = (w.alloc (.cells #[.slice At th.length ct, .slice As sv.length cs', .slice Ag gr.length cg, .int .i64 em, .int .i64 sd, .int .i64 dn, .int .i64 pk, .int .i64 co] 61)).alloc (.cells #[.slice none 0 0, .slice none 0 0, .slice none 0 0, .int .i64 0, .int .i64 0, .int .i64 0, .int .i64 0, .int .i64 0] 61) from hW)
  have HDW := Lib.hid hD
  have HWI : Hid (wrap64 ((id : Int) - 1) = (id : Int) - 1) := wr64 (by omega) (by omega)
  have HH := Lib.hid h
  have hgood : x.sv id = (k == 2) ∧ x.th id = false ∧ (decide (id = 1) || RD) = true := by
    unfold mayB at hmy
    rw [hrdy] at hmy
    revert hmy hths
    rcases hk12 with e | e
    all_goals
      subst e
      by_cases hi : id = 1
      all_goals cases x.sv id <;> cases x.th id <;> cases RD <;> simp [hi]
  obtain ⟨g1, g2, g3⟩ := hgood
  rw [g1] at HSV
  rw [g2] at HTH
  have sa := hF.sa
  have sb := hF.sb
  have sw := hF.sw
  have swd := hF.wd
  have sx := ws_bd ht id
  have sy := cs_bd ht (id - 1)
  have hct := h.bd.ct
  have hcc : co = x.ct := h.rel.ct
  have htt := h.tt
  have hl3 := hF.l3
  have HL3 := Lib.hid hl3
  have hmo : moreI ws cs.length k id = ws.getD id 0 := by rcases hk12 with e | e <;> subst e <;> (unfold moreI; simp)
  have HDW2 : Hid (¬ cap < x.wd + ws.getD id 0 → doW x ws cs cap k id = (effW (addW x (ws.getD id 0)) ws cs k id, 0)) := Lib.hid fun hn => by unfold doW; rw [if_neg (by rw [hmy]; decide), hmo, if_neg hn]
  have HE1 : Hid (cap < x.wd + ws.getD id 0 → doW x ws cs cap k id = (x, 25)) := Lib.hid fun hn => by unfold doW; rw [if_neg (by rw [hmy]; decide), hmo, if_pos hn]
  have HRL : Hid (¬ cap < x.wd + ws.getD id 0 → Rel ws cs.length cap (t + 1) ⟨th ++ [(id : Int)], wo sv (id : Int) ++ [(id : Int)], gr, em, sd, dn, max pk (x.wd + ws.getD id 0), co + cs.getD (id - 1) 0⟩ (effW (addW x (ws.getD id 0)) ws cs k id)) := Lib.hid fun hn => h.rel.reck ht k hk12 id hi1 hin g2 (by omega)
  have HSM : Hid (∀ wr, DI w b0 o0 b1 o1 ws cs At ct As cs' Ag cg th sv gr em sd dn pk co wr → _) := Lib.hid fun wr (hr : DI w b0 o0 b1 o1 ws cs At ct As cs' Ag cg th sv gr em sd dn pk co wr) => h.sum hr (by omega) (fun i hi => by have := (h.rel.th i).1 hi; omega) (fun i hi => by have := (h.rel.gr i).1 hi; omega)
  have HSM2 : Hid (¬ cap < x.wd + ws.getD id 0 → ∀ (A2 A4 : Option Addr) (c2 c4 : Nat) (p q : Int) (wr : World), DI w b0 o0 b1 o1 ws cs A2 c2 A4 c4 Ag cg (th ++ [(id : Int)]) (wo sv (id : Int) ++ [(id : Int)]) gr em sd dn p q wr → _) := Lib.hid fun hn A2 A4 c2 c4 p q wr (hr : DI w b0 o0 b1 o1 ws cs A2 c2 A4 c4 Ag cg (th ++ [(id : Int)]) (wo sv (id : Int) ++ [(id : Int)]) gr em sd dn p q wr) => h.sum hr (by simp; omega) (fun i hi => by have := ((HRL.out hn).th i).1 hi; omega) (fun i hi => by have := (h.rel.gr i).1 hi; omega)
  have hs2 : sumL ws (th ++ [(id : Int)]) = sumL ws th + ws.getD id 0 := by rw [sumL_app, sumL_cons, sumL_nil, Int.toNat_natCast]; omega
  rw [hs2] at HSM2
  rw [← sw] at HDW2 HE1 HRL HSM2
  have HWC : Hid (wrap64 (co + cs.getD (id - 1) 0) = co + cs.getD (id - 1) 0) := wr64 (by omega) (by omega)
  have s0 : sumL ws th + sumL ws gr ≤ 26214400000 := by omega
  have HLW : Hid ((wo sv (id : Int)).length ≤ 1000000) := Lib.hid (by have := wo_len sv (id : Int); omega)
  have HG3 := Lib.hid g3
  have HZ : Hid (1 ≤ ws.length) := Lib.hid (by omega)
  clear hmy hrdy hths hF hk h ht hD hW g1 g2 g3 hs2 hct hcc htt hl3 hmo sw swd HDONE HH
  obtain ⟨th2, hth2⟩ : ∃ l, l = th ++ [(id : Int)] := ⟨_, rfl⟩
  obtain ⟨svw, hsvw⟩ : ∃ l, l = wo sv (id : Int) := ⟨_, rfl⟩
  obtain ⟨sv2, hsv2⟩ : ∃ l, l = svw ++ [(id : Int)] := ⟨_, rfl⟩
  rw [← hsvw] at HRL HSM2 HLW
  rw [← hth2, ← hsv2] at HRL HSM2
  have HW1 : Hid (∀ wr, DI w b0 o0 b1 o1 ws cs At ct As cs' Ag cg th sv gr em sd dn pk co wr → Calls Try.prog 37 #[.slice At th.length ct, .int .i64 (id : Int)] wr (NewR w b0 o0 b1 o1 ws cs At ct As cs' Ag cg th sv gr em sd dn pk co th2)) := Lib.hid fun wr hr => by rw [hth2]; exact hr.withC _ hr.rt hr.lt (by have := HL3.out; omega)
  have HW2 : Hid (∀ A2 c2 wr, DI w b0 o0 b1 o1 ws cs A2 c2 As cs' Ag cg th2 sv gr em sd dn pk co wr → Calls Try.prog 38 #[.slice As sv.length cs', .int .i64 (id : Int)] wr (NewR w b0 o0 b1 o1 ws cs A2 c2 As cs' Ag cg th2 sv gr em sd dn pk co svw)) := Lib.hid fun A2 c2 wr hr => by rw [hsvw]; exact hr.withoutC _ hr.rs hr.ls (by have := HL3.out; omega)
  have HW3 : Hid (∀ A2 c2 A3 c3 wr, DI w b0 o0 b1 o1 ws cs A2 c2 As cs' Ag cg th2 sv gr em sd dn pk co wr → RdT w.heap.size wr A3 svw → svw.length ≤ c3 → Calls Try.prog 37 #[.slice A3 svw.length c3, .int .i64 (id : Int)] wr (NewR w b0 o0 b1 o1 ws cs A2 c2 As cs' Ag cg th2 sv gr em sd dn pk co sv2)) := Lib.hid fun A2 c2 A3 c3 wr hr h3 hc3 => by rw [hsv2]; exact hr.withC _ h3 hc3 HLW.out
  clear hth2 hsvw hsv2
  have HDN : Hid (∀ (E : Int) (wr : World), doW x ws cs cap k id = (x, E) → E ≠ 0 → DI w b0 o0 b1 o1 ws cs At ct As cs' Ag cg th sv gr em sd dn pk co wr → _) := Lib.hid fun E wr hE h0 (hr : DI w b0 o0 b1 o1 ws cs At ct As cs' Ag cg th sv gr em sd dn pk co wr) => hr.done (cap := cap) (t := t + 1) (R := doW x ws cs cap k id) (E := E) (by rw [hE]) (fun hh => absurd (by rw [hE] at hh; exact hh) h0)
  generalize sumL ws th = SA at *
  generalize sumL ws gr = SB at *
  generalize ws.getD id 0 = X at *
  generalize cs.getD (id - 1) 0 = Y at *
  have HLEN := Lib.hid hlen
  clear hlen
  have HKEY : Hid ((((id : Int) == 1) = true) ∨ ((((id : Int) == 1) = false) ∧ RD = true)) := Lib.hid (by
    by_cases hi : id = 1
    · left; simp; omega
    · right
      have q := HG3.out
      rw [decide_eq_false hi, Bool.false_or] at q
      exact ⟨by simp; omega, q⟩)
  have HK12 := Lib.hid hk12
  clear hk12
  rcases HK12.out with e | e
  all_goals
    subst e
    rcases HKEY.out with hib | ⟨hib, rfl⟩
    all_goals
      clear HKEY HK12 HG3
      go_enter Try.func24, Try.ntmps24
      simp only [scells]
      go_upto_region 2 with (fail)
      rw [← HW.out]
      have hD := HDW.out
      have k0 := hD.k0; have k1 := hD.k1; have k2 := hD.k2; have k3 := hD.k3; have k4 := hD.k4; have k5 := hD.k5; have k6 := hD.k6; have k7 := hD.k7; have z0 := hD.kz 0; have z1 := hD.kz 1; have z2 := hD.kz 2; have z3 := hD.kz 3; have z4 := hD.kz 4; have z5 := hD.kz 5; have z6 := hD.kz 6; have z7 := hD.kz 7; have r0 := hD.r0; have r1 := hD.r1; have r2 := hD.r2; have r3 := hD.r3; have r4 := hD.r4; have r5 := hD.r5; have r6 := hD.r6; have r7 := hD.r7; have y0 := hD.rz 0; have y1 := hD.rz 1; have y2 := hD.rz 2; have y3 := hD.rz 3; have y4 := hD.rz 4; have y5 := hD.rz 5; have y6 := hD.rz 6; have y7 := hD.rz 7; have x0 := HX0.out _ hD.rw_; have x1 := HX1.out _ hD.rc; have HD := Lib.hid hD; clear hD
      by_cases hc : cap < SA + SB + X
      · have hcb : decide (cap < SA + SB + X) = true := decide_eq_true hc
        have HE := Lib.hid (HE1.out hc)
        clear hc
        go_wp2_with (go_at_call 35; first | ((with_reducible refine (HRD.out _ HD.out).mono ?_); (rintro e wn ⟨rfl, hdr⟩; have hD := HD.out.below hdr.below; clear k0 z0 r0 y0 k1 z1 r1 y1 k2 z2 r2 y2 k3 z3 r3 y3 k4 z4 r4 y4 k5 z5 r5 y5 k6 z6 r6 y6 k7 z7 r7 y7 x0 x1 HD; have k0 := hD.k0; have k1 := hD.k1; have k2 := hD.k2; have k3 := hD.k3; have k4 := hD.k4; have k5 := hD.k5; have k6 := hD.k6; have k7 := hD.k7; have z0 := hD.kz 0; have z1 := hD.kz 1; have z2 := hD.kz 2; have z3 := hD.kz 3; have z4 := hD.kz 4; have z5 := hD.kz 5; have z6 := hD.kz 6; have z7 := hD.kz 7; have r0 := hD.r0; have r1 := hD.r1; have r2 := hD.r2; have r3 := hD.r3; have r4 := hD.r4; have r5 := hD.r5; have r6 := hD.r6; have r7 := hD.r7; have y0 := hD.rz 0; have y1 := hD.rz 1; have y2 := hD.rz 2; have y3 := hD.rz 3; have y4 := hD.rz 4; have y5 := hD.rz 5; have y6 := hD.rz 6; have y7 := hD.rz 7; have x0 := HX0.out _ hD.rw_; have x1 := HX1.out _ hD.rc; have HD := Lib.hid hD; clear hD; clear hdr)) | ((with_reducible refine (HSV.out _ HD.out).mono ?_); (rintro e wn ⟨rfl, hdr⟩; have hD := HD.out.below hdr.below; clear k0 z0 r0 y0 k1 z1 r1 y1 k2 z2 r2 y2 k3 z3 r3 y3 k4 z4 r4 y4 k5 z5 r5 y5 k6 z6 r6 y6 k7 z7 r7 y7 x0 x1 HD; have k0 := hD.k0; have k1 := hD.k1; have k2 := hD.k2; have k3 := hD.k3; have k4 := hD.k4; have k5 := hD.k5; have k6 := hD.k6; have k7 := hD.k7; have z0 := hD.kz 0; have z1 := hD.kz 1; have z2 := hD.kz 2; have z3 := hD.kz 3; have z4 := hD.kz 4; have z5 := hD.kz 5; have z6 := hD.kz 6; have z7 := hD.kz 7; have r0 := hD.r0; have r1 := hD.r1; have r2 := hD.r2; have r3 := hD.r3; have r4 := hD.r4; have r5 := hD.r5; have r6 := hD.r6; have r7 := hD.r7; have y0 := hD.rz 0; have y1 := hD.rz 1; have y2 := hD.rz 2; have y3 := hD.rz 3; have y4 := hD.rz 4; have y5 := hD.rz 5; have y6 := hD.rz 6; have y7 := hD.rz 7; have x0 := HX0.out _ hD.rw_; have x1 := HX1.out _ hD.rc; have HD := Lib.hid hD; clear hD; clear hdr)) | ((with_reducible refine (HTH.out _ HD.out).mono ?_); (rintro e wn ⟨rfl, hdr⟩; have hD := HD.out.below hdr.below; clear k0 z0 r0 y0 k1 z1 r1 y1 k2 z2 r2 y2 k3 z3 r3 y3 k4 z4 r4 y4 k5 z5 r5 y5 k6 z6 r6 y6 k7 z7 r7 y7 x0 x1 HD; have k0 := hD.k0; have k1 := hD.k1; have k2 := hD.k2; have k3 := hD.k3; have k4 := hD.k4; have k5 := hD.k5; have k6 := hD.k6; have k7 := hD.k7; have z0 := hD.kz 0; have z1 := hD.kz 1; have z2 := hD.kz 2; have z3 := hD.kz 3; have z4 := hD.kz 4; have z5 := hD.kz 5; have z6 := hD.kz 6; have z7 := hD.kz 7; have r0 := hD.r0; have r1 := hD.r1; have r2 := hD.r2; have r3 := hD.r3; have r4 := hD.r4; have r5 := hD.r5; have r6 := hD.r6; have r7 := hD.r7; have y0 := hD.rz 0; have y1 := hD.rz 1; have y2 := hD.rz 2; have y3 := hD.rz 3; have y4 := hD.rz 4; have y5 := hD.rz 5; have y6 := hD.rz 6; have y7 := hD.rz 7; have x0 := HX0.out _ hD.rw_; have x1 := HX1.out _ hD.rc; have HD := Lib.hid hD; clear hD; clear hdr)))
        have wA : IntKind.i64.wrap (SA + SB) = SA + SB := IntWalk.i64_in _ (by omega)
        have wB : IntKind.i64.wrap (SA + SB + X) = SA + SB + X := IntWalk.i64_in _ (by omega)
        go_quiet ((go_at_call 36; first | (with_reducible exact q1_ (fun j => (HSM.out _ (HD.out.drewN j)).1)) | (with_reducible exact q1_ (fun j => (HSM.out _ (HD.out.drewN j)).2))))
        clear wA wB
        go_wp2_with fail
        refine bodyPost_ret (v := .tuple #[.agg #[.slice At th.length ct, .slice As sv.length cs', .slice Ag gr.length cg, .int .i64 em, .int .i64 sd, .int .i64 dn, .int .i64 pk, .int .i64 co], .int .i64 25]) (by simp [results, Try.f24, go_sem, k0, k1, k2, k3, k4, k5, k6, k7, r0, r1, r2, r3, r4, r5, r6, r7, y0, y1, y2, y3, y4, y5, y6, y7]) rfl ?_
        exact HDN.out _ _ HE.out (by decide) (HD.out.drewN _)
      · have hcb : decide (cap < SA + SB + X) = false := decide_eq_false hc
        have hrel := HRL.out hc
        have HS2 := Lib.hid (HSM2.out hc)
        have HE := Lib.hid (HDW2.out hc)
        clear hc
        by_cases hp : pk < SA + X + SB
        · have hpb : decide (pk < SA + X + SB) = true := by simp; omega
          rw [show max pk (SA + SB + X) = (SA + X + SB) by omega] at hrel
          have HREL := Lib.hid hrel
          clear hrel hp
          go_wp2_with (go_at_call 35; first | ((with_reducible refine (HRD.out _ HD.out).mono ?_); (rintro e wn ⟨rfl, hdr⟩; have hD := HD.out.below hdr.below; clear k0 z0 r0 y0 k1 z1 r1 y1 k2 z2 r2 y2 k3 z3 r3 y3 k4 z4 r4 y4 k5 z5 r5 y5 k6 z6 r6 y6 k7 z7 r7 y7 x0 x1 HD; have k0 := hD.k0; have k1 := hD.k1; have k2 := hD.k2; have k3 := hD.k3; have k4 := hD.k4; have k5 := hD.k5; have k6 := hD.k6; have k7 := hD.k7; have z0 := hD.kz 0; have z1 := hD.kz 1; have z2 := hD.kz 2; have z3 := hD.kz 3; have z4 := hD.kz 4; have z5 := hD.kz 5; have z6 := hD.kz 6; have z7 := hD.kz 7; have r0 := hD.r0; have r1 := hD.r1; have r2 := hD.r2; have r3 := hD.r3; have r4 := hD.r4; have r5 := hD.r5; have r6 := hD.r6; have r7 := hD.r7; have y0 := hD.rz 0; have y1 := hD.rz 1; have y2 := hD.rz 2; have y3 := hD.rz 3; have y4 := hD.rz 4; have y5 := hD.rz 5; have y6 := hD.rz 6; have y7 := hD.rz 7; have x0 := HX0.out _ hD.rw_; have x1 := HX1.out _ hD.rc; have HD := Lib.hid hD; clear hD; clear hdr)) | ((with_reducible refine (HSV.out _ HD.out).mono ?_); (rintro e wn ⟨rfl, hdr⟩; have hD := HD.out.below hdr.below; clear k0 z0 r0 y0 k1 z1 r1 y1 k2 z2 r2 y2 k3 z3 r3 y3 k4 z4 r4 y4 k5 z5 r5 y5 k6 z6 r6 y6 k7 z7 r7 y7 x0 x1 HD; have k0 := hD.k0; have k1 := hD.k1; have k2 := hD.k2; have k3 := hD.k3; have k4 := hD.k4; have k5 := hD.k5; have k6 := hD.k6; have k7 := hD.k7; have z0 := hD.kz 0; have z1 := hD.kz 1; have z2 := hD.kz 2; have z3 := hD.kz 3; have z4 := hD.kz 4; have z5 := hD.kz 5; have z6 := hD.kz 6; have z7 := hD.kz 7; have r0 := hD.r0; have r1 := hD.r1; have r2 := hD.r2; have r3 := hD.r3; have r4 := hD.r4; have r5 := hD.r5; have r6 := hD.r6; have r7 := hD.r7; have y0 := hD.rz 0; have y1 := hD.rz 1; have y2 := hD.rz 2; have y3 := hD.rz 3; have y4 := hD.rz 4; have y5 := hD.rz 5; have y6 := hD.rz 6; have y7 := hD.rz 7; have x0 := HX0.out _ hD.rw_; have x1 := HX1.out _ hD.rc; have HD := Lib.hid hD; clear hD; clear hdr)) | ((with_reducible refine (HTH.out _ HD.out).mono ?_); (rintro e wn ⟨rfl, hdr⟩; have hD := HD.out.below hdr.below; clear k0 z0 r0 y0 k1 z1 r1 y1 k2 z2 r2 y2 k3 z3 r3 y3 k4 z4 r4 y4 k5 z5 r5 y5 k6 z6 r6 y6 k7 z7 r7 y7 x0 x1 HD; have k0 := hD.k0; have k1 := hD.k1; have k2 := hD.k2; have k3 := hD.k3; have k4 := hD.k4; have k5 := hD.k5; have k6 := hD.k6; have k7 := hD.k7; have z0 := hD.kz 0; have z1 := hD.kz 1; have z2 := hD.kz 2; have z3 := hD.kz 3; have z4 := hD.kz 4; have z5 := hD.kz 5; have z6 := hD.kz 6; have z7 := hD.kz 7; have r0 := hD.r0; have r1 := hD.r1; have r2 := hD.r2; have r3 := hD.r3; have r4 := hD.r4; have r5 := hD.r5; have r6 := hD.r6; have r7 := hD.r7; have y0 := hD.rz 0; have y1 := hD.rz 1; have y2 := hD.rz 2; have y3 := hD.rz 3; have y4 := hD.rz 4; have y5 := hD.rz 5; have y6 := hD.rz 6; have y7 := hD.rz 7; have x0 := HX0.out _ hD.rw_; have x1 := HX1.out _ hD.rc; have HD := Lib.hid hD; clear hD; clear hdr)))
          have wA : IntKind.i64.wrap (SA + SB) = SA + SB := IntWalk.i64_in _ (by omega)
          have wB : IntKind.i64.wrap (SA + SB + X) = SA + SB + X := IntWalk.i64_in _ (by omega)
          go_quiet ((go_at_call 36; first | (with_reducible exact q1_ (fun j => (HSM.out _ (HD.out.drewN j)).1)) | (with_reducible exact q1_ (fun j => (HSM.out _ (HD.out.drewN j)).2))))
          clear wA wB hcb
          have hD := HD.out.drewN nq
          obtain ⟨wq, hq⟩ : ∃ wq, wq = wn.drewN nq := ⟨_, rfl⟩
          rw [← hq] at hD ⊢
          clear hq
          clear k0 z0 r0 y0 k1 z1 r1 y1 k2 z2 r2 y2 k3 z3 r3 y3 k4 z4 r4 y4 k5 z5 r5 y5 k6 z6 r6 y6 k7 z7 r7 y7 x0 x1 HD
          have k0 := hD.k0; have k1 := hD.k1; have k2 := hD.k2; have k3 := hD.k3; have k4 := hD.k4; have k5 := hD.k5; have k6 := hD.k6; have k7 := hD.k7; have z0 := hD.kz 0; have z1 := hD.kz 1; have z2 := hD.kz 2; have z3 := hD.kz 3; have z4 := hD.kz 4; have z5 := hD.kz 5; have z6 := hD.kz 6; have z7 := hD.kz 7; have r0 := hD.r0; have r1 := hD.r1; have r2 := hD.r2; have r3 := hD.r3; have r4 := hD.r4; have r5 := hD.r5; have r6 := hD.r6; have r7 := hD.r7; have y0 := hD.rz 0; have y1 := hD.rz 1; have y2 := hD.rz 2; have y3 := hD.rz 3; have y4 := hD.rz 4; have y5 := hD.rz 5; have y6 := hD.rz 6; have y7 := hD.rz 7; have x0 := HX0.out _ hD.rw_; have x1 := HX1.out _ hD.rc; have HD := Lib.hid hD; clear hD
          go_wp2_with fail
          refine (HW1.out _ HD.out).mono ?_
          rintro e wn ⟨A2, c2, rfl, hl2, hr2, hD⟩
          have HL2 := Lib.hid hl2
          have HR2 := Lib.hid hr2
          clear hl2 hr2
          clear k0 z0 r0 y0 k1 z1 r1 y1 k2 z2 r2 y2 k3 z3 r3 y3 k4 z4 r4 y4 k5 z5 r5 y5 k6 z6 r6 y6 k7 z7 r7 y7 x0 x1 HD
          have k0 := hD.k0; have k1 := hD.k1; have k2 := hD.k2; have k3 := hD.k3; have k4 := hD.k4; have k5 := hD.k5; have k6 := hD.k6; have k7 := hD.k7; have z0 := hD.kz 0; have z1 := hD.kz 1; have z2 := hD.kz 2; have z3 := hD.kz 3; have z4 := hD.kz 4; have z5 := hD.kz 5; have z6 := hD.kz 6; have z7 := hD.kz 7; have r0 := hD.r0; have r1 := hD.r1; have r2 := hD.r2; have r3 := hD.r3; have r4 := hD.r4; have r5 := hD.r5; have r6 := hD.r6; have r7 := hD.r7; have y0 := hD.rz 0; have y1 := hD.rz 1; have y2 := hD.rz 2; have y3 := hD.rz 3; have y4 := hD.rz 4; have y5 := hD.rz 5; have y6 := hD.rz 6; have y7 := hD.rz 7; have x0 := HX0.out _ hD.rw_; have x1 := HX1.out _ hD.rc; have HD := Lib.hid hD; clear hD
          go_wp2_with fail
          have hD := HD.out.th_ HR2.out HL2.out
          obtain ⟨wq, hq⟩ : ∃ wq, wq = wn.setCell ⟨w.heap.size, 0, none⟩ (.slice A2 th2.length c2) := ⟨_, rfl⟩
          rw [← hq] at hD ⊢
          clear hq HR2 HL2
          clear k0 z0 r0 y0 k1 z1 r1 y1 k2 z2 r2 y2 k3 z3 r3 y3 k4 z4 r4 y4 k5 z5 r5 y5 k6 z6 r6 y6 k7 z7 r7 y7 x0 x1 HD
          have k0 := hD.k0; have k1 := hD.k1; have k2 := hD.k2; have k3 := hD.k3; have k4 := hD.k4; have k5 := hD.k5; have k6 := hD.k6; have k7 := hD.k7; have z0 := hD.kz 0; have z1 := hD.kz 1; have z2 := hD.kz 2; have z3 := hD.kz 3; have z4 := hD.kz 4; have z5 := hD.kz 5; have z6 := hD.kz 6; have z7 := hD.kz 7; have r0 := hD.r0; have r1 := hD.r1; have r2 := hD.r2; have r3 := hD.r3; have r4 := hD.r4; have r5 := hD.r5; have r6 := hD.r6; have r7 := hD.r7; have y0 := hD.rz 0; have y1 := hD.rz 1; have y2 := hD.rz 2; have y3 := hD.rz 3; have y4 := hD.rz 4; have y5 := hD.rz 5; have y6 := hD.rz 6; have y7 := hD.rz 7; have x0 := HX0.out _ hD.rw_; have x1 := HX1.out _ hD.rc; have HD := Lib.hid hD; clear hD
          refine (HW2.out _ _ _ HD.out).mono ?_
          rintro e wn ⟨A3, c3, rfl, hl3, hr3, hD⟩
          have HL3' := Lib.hid hl3
          have HR3 := Lib.hid hr3
          clear hl3 hr3
          clear k0 z0 r0 y0 k1 z1 r1 y1 k2 z2 r2 y2 k3 z3 r3 y3 k4 z4 r4 y4 k5 z5 r5 y5 k6 z6 r6 y6 k7 z7 r7 y7 x0 x1 HD
          have k0 := hD.k0; have k1 := hD.k1; have k2 := hD.k2; have k3 := hD.k3; have k4 := hD.k4; have k5 := hD.k5; have k6 := hD.k6; have k7 := hD.k7; have z0 := hD.kz 0; have z1 := hD.kz 1; have z2 := hD.kz 2; have z3 := hD.kz 3; have z4 := hD.kz 4; have z5 := hD.kz 5; have z6 := hD.kz 6; have z7 := hD.kz 7; have r0 := hD.r0; have r1 := hD.r1; have r2 := hD.r2; have r3 := hD.r3; have r4 := hD.r4; have r5 := hD.r5; have r6 := hD.r6; have r7 := hD.r7; have y0 := hD.rz 0; have y1 := hD.rz 1; have y2 := hD.rz 2; have y3 := hD.rz 3; have y4 := hD.rz 4; have y5 := hD.rz 5; have y6 := hD.rz 6; have y7 := hD.rz 7; have x0 := HX0.out _ hD.rw_; have x1 := HX1.out _ hD.rc; have HD := Lib.hid hD; clear hD
          go_wp2_with fail
          refine (HW3.out _ _ _ _ _ HD.out HR3.out HL3'.out).mono ?_
          rintro e wn ⟨A4, c4, rfl, hl4, hr4, hD⟩
          have HL4 := Lib.hid hl4
          have HR4 := Lib.hid hr4
          clear hl4 hr4 HR3 HL3'
          clear k0 z0 r0 y0 k1 z1 r1 y1 k2 z2 r2 y2 k3 z3 r3 y3 k4 z4 r4 y4 k5 z5 r5 y5 k6 z6 r6 y6 k7 z7 r7 y7 x0 x1 HD
          have k0 := hD.k0; have k1 := hD.k1; have k2 := hD.k2; have k3 := hD.k3; have k4 := hD.k4; have k5 := hD.k5; have k6 := hD.k6; have k7 := hD.k7; have z0 := hD.kz 0; have z1 := hD.kz 1; have z2 := hD.kz 2; have z3 := hD.kz 3; have z4 := hD.kz 4; have z5 := hD.kz 5; have z6 := hD.kz 6; have z7 := hD.kz 7; have r0 := hD.r0; have r1 := hD.r1; have r2 := hD.r2; have r3 := hD.r3; have r4 := hD.r4; have r5 := hD.r5; have r6 := hD.r6; have r7 := hD.r7; have y0 := hD.rz 0; have y1 := hD.rz 1; have y2 := hD.rz 2; have y3 := hD.rz 3; have y4 := hD.rz 4; have y5 := hD.rz 5; have y6 := hD.rz 6; have y7 := hD.rz 7; have x0 := HX0.out _ hD.rw_; have x1 := HX1.out _ hD.rc; have HD := Lib.hid hD; clear hD
          go_wp2_with fail
          have hD := HD.out.sv_ HR4.out HL4.out
          obtain ⟨wq, hq⟩ : ∃ wq, wq = wn.setCell ⟨w.heap.size, 1, none⟩ (.slice A4 sv2.length c4) := ⟨_, rfl⟩
          rw [← hq] at hD ⊢
          clear hq HR4 HL4
          clear k0 z0 r0 y0 k1 z1 r1 y1 k2 z2 r2 y2 k3 z3 r3 y3 k4 z4 r4 y4 k5 z5 r5 y5 k6 z6 r6 y6 k7 z7 r7 y7 x0 x1 HD
          have k0 := hD.k0; have k1 := hD.k1; have k2 := hD.k2; have k3 := hD.k3; have k4 := hD.k4; have k5 := hD.k5; have k6 := hD.k6; have k7 := hD.k7; have z0 := hD.kz 0; have z1 := hD.kz 1; have z2 := hD.kz 2; have z3 := hD.kz 3; have z4 := hD.kz 4; have z5 := hD.kz 5; have z6 := hD.kz 6; have z7 := hD.kz 7; have r0 := hD.r0; have r1 := hD.r1; have r2 := hD.r2; have r3 := hD.r3; have r4 := hD.r4; have r5 := hD.r5; have r6 := hD.r6; have r7 := hD.r7; have y0 := hD.rz 0; have y1 := hD.rz 1; have y2 := hD.rz 2; have y3 := hD.rz 3; have y4 := hD.rz 4; have y5 := hD.rz 5; have y6 := hD.rz 6; have y7 := hD.rz 7; have x0 := HX0.out _ hD.rw_; have x1 := HX1.out _ hD.rc; have HD := Lib.hid hD; clear hD
          have hwi := HWI.out
          refine start_ (n := 10) (S := fun w' => w'.cell? ⟨w.heap.size, 7, none⟩ = some (.int .i64 co) ∧ w'.cell? ⟨b1, o1 + (id - 1), none⟩ = some (.int .i64 Y)) (ds := [9]) #[false, false, false, false, false, false, false, false, false, false] (by kernel_rfl) rfl rfl ⟨k7, x1⟩ (fun hHeld => ?_)
          refine pure_ (i := 0) (N := some 76) (v := ?_) (a' := ?_) #[true, false, false, false, false, false, false, false, false, false] rfl rfl (by kernel_rfl) (fun _ _ _ h => h) (Or.inl ⟨by rfl, ?_⟩) ?_ ?_
          rotate_left
          · intro w'
            go_simp
            with_reducible rfl
          rotate_left
          · simp only [Act.put, List.setIfInBounds_toArray, List.set_cons_zero, List.set_cons_succ, i64_w, i32_w]
            rfl
          refine pure_ (i := 2) (N := some 78) (v := ?_) (a' := ?_) #[true, false, true, false, false, false, false, false, false, false] rfl rfl (by kernel_rfl) (fun _ _ _ h => h) (Or.inl ⟨by rfl, ?_⟩) ?_ ?_
          rotate_left
          · intro w'
            go_simp
            with_reducible rfl
          rotate_left
          · simp only [Act.put, List.setIfInBounds_toArray, List.set_cons_zero, List.set_cons_succ, i64_w, i32_w]
            rfl
          refine pure_ (i := 3) (N := some 79) (v := ?_) (a' := ?_) #[true, false, true, true, false, false, false, false, false, false] rfl rfl (by kernel_rfl) (fun _ _ _ h => h) (Or.inl ⟨by rfl, ?_⟩) ?_ ?_
          rotate_left
          · intro w'
            go_simp
            with_reducible rfl
          rotate_left
          · simp only [Act.put, List.setIfInBounds_toArray, List.set_cons_zero, List.set_cons_succ, i64_w, i32_w]
            rfl
          refine pure_ (i := 4) (N := some 80) (v := ?_) (a' := ?_) #[true, false, true, true, true, false, false, false, false, false] rfl rfl (by kernel_rfl) (fun _ _ _ h => h) (Or.inl ⟨by rfl, ?_⟩) ?_ ?_
          rotate_left
          · intro w'
            go_simp
            with_reducible rfl
          rotate_left
          · simp only [Act.put, List.setIfInBounds_toArray, List.set_cons_zero, List.set_cons_succ, i64_w, i32_w]
            rfl
          refine pure_ (i := 5) (N := some 81) (v := ?_) (a' := ?_) #[true, false, true, true, true, true, false, false, false, false] rfl rfl (by kernel_rfl) (fun _ _ _ h => h) (Or.inl ⟨by rfl, ?_⟩) ?_ ?_
          rotate_left
          · intro w'
            go_simp
            with_reducible rfl
          rotate_left
          · simp only [Act.put, List.setIfInBounds_toArray, List.set_cons_zero, List.set_cons_succ, i64_w, i32_w]
            rfl
          refine take_ (i := 1) (N := some 77) (v := ?_) (a' := ?_) #[true, true, true, true, true, true, false, false, false, false] rfl rfl (by kernel_rfl) (fun _ _ _ h => h) (Or.inl ⟨by rfl, ?_⟩) hHeld ?_ ?_
          rotate_left
          · rintro w' ⟨s0, s1⟩
            go_simp
            with_reducible rfl
          rotate_left
          · simp only [Act.put, List.setIfInBounds_toArray, List.set_cons_zero, List.set_cons_succ, i64_w, i32_w]
            rfl
          refine take_ (i := 6) (N := some 82) (v := ?_) (a' := ?_) #[true, true, true, true, true, true, true, false, false, false] rfl rfl (by kernel_rfl) (fun _ _ _ h => h) (Or.inl ⟨by rfl, ?_⟩) hHeld ?_ ?_
          rotate_left
          · rintro w' ⟨s0, s1⟩
            go_simp
            with_reducible rfl
          rotate_left
          · simp only [Act.put, List.setIfInBounds_toArray, List.set_cons_zero, List.set_cons_succ, i64_w, i32_w]
            rfl
          refine pure_ (i := 7) (N := some 83) (v := ?_) (a' := ?_) #[true, true, true, true, true, true, true, true, false, false] rfl rfl (by kernel_rfl) (fun _ _ _ h => h) (Or.inl ⟨by rfl, ?_⟩) ?_ ?_
          rotate_left
          · intro w'
            go_simp
            with_reducible rfl
          rotate_left
          · simp only [Act.put, List.setIfInBounds_toArray, List.set_cons_zero, List.set_cons_succ, i64_w, i32_w]
            rfl
          refine pure_ (i := 8) (N := some 84) (v := ?_) (a' := ?_) #[true, true, true, true, true, true, true, true, true, false] rfl rfl (by kernel_rfl) (fun _ _ _ h => h) (Or.inl ⟨by rfl, ?_⟩) ?_ ?_
          rotate_left
          · intro w'
            go_simp
            with_reducible rfl
          rotate_left
          · simp only [Act.put, List.setIfInBounds_toArray, List.set_cons_zero, List.set_cons_succ, i64_w, i32_w]
            rfl
          refine last_ (i := 9) (N := none) #[true, true, true, true, true, true, true, true, true, true] rfl rfl (by kernel_rfl) (by decide) (fun K hK => ?_)
          refine skip_ (w1 := ?_) (by rfl) rfl ?_ ?_
          rotate_left
          · go_simp
            rfl
          refine hK.out _ _ ?_
          clear hK K
          refine done_ (by kernel_rfl) ?_
          rw [HWC.out]
          clear hwi
          (try clear hHeld)
          have hD := (HD.out.co_ (co + Y)).drew
          obtain ⟨wn, hq⟩ : ∃ wn, wn = (wq.setCell ⟨w.heap.size, 7, none⟩ (.int .i64 (co + Y))).drew := ⟨_, rfl⟩
          rw [← hq] at hD ⊢
          clear hq
          clear k0 z0 r0 y0 k1 z1 r1 y1 k2 z2 r2 y2 k3 z3 r3 y3 k4 z4 r4 y4 k5 z5 r5 y5 k6 z6 r6 y6 k7 z7 r7 y7 x0 x1 HD
          have k0 := hD.k0; have k1 := hD.k1; have k2 := hD.k2; have k3 := hD.k3; have k4 := hD.k4; have k5 := hD.k5; have k6 := hD.k6; have k7 := hD.k7; have z0 := hD.kz 0; have z1 := hD.kz 1; have z2 := hD.kz 2; have z3 := hD.kz 3; have z4 := hD.kz 4; have z5 := hD.kz 5; have z6 := hD.kz 6; have z7 := hD.kz 7; have r0 := hD.r0; have r1 := hD.r1; have r2 := hD.r2; have r3 := hD.r3; have r4 := hD.r4; have r5 := hD.r5; have r6 := hD.r6; have r7 := hD.r7; have y0 := hD.rz 0; have y1 := hD.rz 1; have y2 := hD.rz 2; have y3 := hD.rz 3; have y4 := hD.rz 4; have y5 := hD.rz 5; have y6 := hD.rz 6; have y7 := hD.rz 7; have x0 := HX0.out _ hD.rw_; have x1 := HX1.out _ hD.rc; have HD := Lib.hid hD; clear hD
          go_wp2_with fail
          have wC : IntKind.i64.wrap (SA + X + SB) = SA + X + SB := IntWalk.i64_in _ (by omega)
          go_quiet ((go_at_call 36; first | (with_reducible exact q1_ (fun j => (HS2.out _ _ _ _ _ _ _ (HD.out.drewN j)).1)) | (with_reducible exact q1_ (fun j => (HS2.out _ _ _ _ _ _ _ (HD.out.drewN j)).2))))
          clear wC hpb
          have hD := HD.out.drewN nq
          obtain ⟨wq, hq⟩ : ∃ wq, wq = wn.drewN nq := ⟨_, rfl⟩
          rw [← hq] at hD ⊢
          clear hq
          clear k0 z0 r0 y0 k1 z1 r1 y1 k2 z2 r2 y2 k3 z3 r3 y3 k4 z4 r4 y4 k5 z5 r5 y5 k6 z6 r6 y6 k7 z7 r7 y7 x0 x1 HD
          have k0 := hD.k0; have k1 := hD.k1; have k2 := hD.k2; have k3 := hD.k3; have k4 := hD.k4; have k5 := hD.k5; have k6 := hD.k6; have k7 := hD.k7; have z0 := hD.kz 0; have z1 := hD.kz 1; have z2 := hD.kz 2; have z3 := hD.kz 3; have z4 := hD.kz 4; have z5 := hD.kz 5; have z6 := hD.kz 6; have z7 := hD.kz 7; have r0 := hD.r0; have r1 := hD.r1; have r2 := hD.r2; have r3 := hD.r3; have r4 := hD.r4; have r5 := hD.r5; have r6 := hD.r6; have r7 := hD.r7; have y0 := hD.rz 0; have y1 := hD.rz 1; have y2 := hD.rz 2; have y3 := hD.rz 3; have y4 := hD.rz 4; have y5 := hD.rz 5; have y6 := hD.rz 6; have y7 := hD.rz 7; have x0 := HX0.out _ hD.rw_; have x1 := HX1.out _ hD.rc; have HD := Lib.hid hD; clear hD
          go_wp2_with fail
          refine start_ (n := 11) (S := fun w' => w'.cell? ⟨w.heap.size, 0, none⟩ = some (.slice A2 th2.length c2) ∧ w'.cell? ⟨w.heap.size, 2, none⟩ = some (.slice Ag gr.length cg)) (ds := [10]) #[false, false, false, false, false, false, false, false, false, false, false] (by kernel_rfl) rfl rfl ⟨k0, k2⟩ (fun hHeld => ?_)
          refine pure_ (i := 0) (N := some 203) (v := ?_) (a' := ?_) #[true, false, false, false, false, false, false, false, false, false, false] rfl rfl (by kernel_rfl) (fun _ _ _ h => h) (Or.inl ⟨by rfl, ?_⟩) ?_ ?_
          rotate_left
          · intro w'
            go_simp
            with_reducible rfl
          rotate_left
          · simp only [Act.put, List.setIfInBounds_toArray, List.set_cons_zero, List.set_cons_succ, i64_w, i32_w]
            rfl
          refine pure_ (i := 1) (N := some 204) (v := ?_) (a' := ?_) #[true, true, false, false, false, false, false, false, false, false, false] rfl rfl (by kernel_rfl) (fun _ _ _ h => h) (Or.inl ⟨by rfl, ?_⟩) ?_ ?_
          rotate_left
          · intro w'
            go_simp
            with_reducible rfl
          rotate_left
          · simp only [Act.put, List.setIfInBounds_toArray, List.set_cons_zero, List.set_cons_succ, i64_w, i32_w]
            rfl
          refine pure_ (i := 4) (N := some 207) (v := ?_) (a' := ?_) #[true, true, false, false, true, false, false, false, false, false, false] rfl rfl (by kernel_rfl) (fun _ _ _ h => h) (Or.inl ⟨by rfl, ?_⟩) ?_ ?_
          rotate_left
          · intro w'
            go_simp
            with_reducible rfl
          rotate_left
          · simp only [Act.put, List.setIfInBounds_toArray, List.set_cons_zero, List.set_cons_succ, i64_w, i32_w]
            rfl
          refine pure_ (i := 5) (N := some 208) (v := ?_) (a' := ?_) #[true, true, false, false, true, true, false, false, false, false, false] rfl rfl (by kernel_rfl) (fun _ _ _ h => h) (Or.inl ⟨by rfl, ?_⟩) ?_ ?_
          rotate_left
          · intro w'
            go_simp
            with_reducible rfl
          rotate_left
          · simp only [Act.put, List.setIfInBounds_toArray, List.set_cons_zero, List.set_cons_succ, i64_w, i32_w]
            rfl
          refine take_ (i := 2) (N := some 205) (v := ?_) (a' := ?_) #[true, true, true, false, true, true, false, false, false, false, false] rfl rfl (by kernel_rfl) (fun _ _ _ h => h) (Or.inl ⟨by rfl, ?_⟩) hHeld ?_ ?_
          rotate_left
          · rintro w' ⟨s0, s1⟩
            go_simp
            with_reducible rfl
          rotate_left
          · simp only [Act.put, List.setIfInBounds_toArray, List.set_cons_zero, List.set_cons_succ, i64_w, i32_w]
            rfl
          refine take_ (i := 6) (N := some 209) (v := ?_) (a' := ?_) #[true, true, true, false, true, true, true, false, false, false, false] rfl rfl (by kernel_rfl) (fun _ _ _ h => h) (Or.inl ⟨by rfl, ?_⟩) hHeld ?_ ?_
          rotate_left
          · rintro w' ⟨s0, s1⟩
            go_simp
            with_reducible rfl
          rotate_left
          · simp only [Act.put, List.setIfInBounds_toArray, List.set_cons_zero, List.set_cons_succ, i64_w, i32_w]
            rfl
          refine one_ (i := 3) (N := some 206) #[true, true, true, true, true, true, true, false, false, false, false] rfl rfl (by kernel_rfl) (by decide) (fun K hK => ?_)
          refine goes_ Try.func36 (by kernel_rfl) rfl #[.slice (some ⟨b0, o0, none⟩) ws.length c0, .slice A2 th2.length c2] (by rfl) rfl rfl (by simp only [List.map_toArray, List.map_cons, List.map_nil]; rfl) ?_
          with_reducible refine ((HS2.out _ _ _ _ _ _ _ HD.out.drew).1).mono ?_
          rintro e w1 ⟨rfl, hd1⟩
          refine ⟨_, rfl, ?_⟩
          have hD1 := HD.out.drew.below hd1.below
          clear hd1
          refine hK.out _ _ ⟨hD1.k0, hD1.k2⟩ (fun hHeld => ?_)
          clear hK K
          refine norm_ (a' := ?_) ?_ ?_
          rotate_left
          · show Act.put _ (some 206) _ = _
            simp only [Act.put, List.setIfInBounds_toArray, List.set_cons_zero, List.set_cons_succ, i64_w, i32_w]
            rfl
          refine one_ (i := 7) (N := some 210) #[true, true, true, true, true, true, true, true, false, false, false] rfl rfl (by kernel_rfl) (by decide) (fun K hK => ?_)
          refine goes_ Try.func36 (by kernel_rfl) rfl #[.slice (some ⟨b0, o0, none⟩) ws.length c0, .slice Ag gr.length cg] (by rfl) rfl rfl (by simp only [List.map_toArray, List.map_cons, List.map_nil]; rfl) ?_
          with_reducible refine ((HS2.out _ _ _ _ _ _ _ hD1).2).mono ?_
          rintro e w2 ⟨rfl, hd2⟩
          refine ⟨_, rfl, ?_⟩
          have hD2 := hD1.below hd2.below
          clear hd2
          have p6 := hD2.k6
          have pz := hD2.kz 6
          refine hK.out _ _ ⟨hD2.k0, hD2.k2⟩ (fun hHeld => ?_)
          clear hK K
          refine norm_ (a' := ?_) ?_ ?_
          rotate_left
          · show Act.put _ (some 210) _ = _
            simp only [Act.put, List.setIfInBounds_toArray, List.set_cons_zero, List.set_cons_succ, i64_w, i32_w]
            rfl
          refine pure_ (i := 8) (N := some 211) (v := ?_) (a' := ?_) #[true, true, true, true, true, true, true, true, true, false, false] rfl rfl (by kernel_rfl) (fun _ _ _ h => h) (Or.inl ⟨by rfl, ?_⟩) ?_ ?_
          rotate_left
          · intro w'
            go_simp
            with_reducible rfl
          rotate_left
          · simp only [Act.put, List.setIfInBounds_toArray, List.set_cons_zero, List.set_cons_succ, i64_w, i32_w]
            rfl
          refine pure_ (i := 9) (N := some 212) (v := ?_) (a' := ?_) #[true, true, true, true, true, true, true, true, true, true, false] rfl rfl (by kernel_rfl) (fun _ _ _ h => h) (Or.inl ⟨by rfl, ?_⟩) ?_ ?_
          rotate_left
          · intro w'
            go_simp
            with_reducible rfl
          rotate_left
          · simp only [Act.put, List.setIfInBounds_toArray, List.set_cons_zero, List.set_cons_succ, i64_w, i32_w]
            rfl
          refine last_ (i := 10) (N := none) #[true, true, true, true, true, true, true, true, true, true, true] rfl rfl (by kernel_rfl) (by decide) (fun K hK => ?_)
          refine skip_ (w1 := ?_) (by rfl) rfl ?_ ?_
          rotate_left
          · go_simp
            rfl
          refine hK.out _ _ ?_
          clear hK K
          refine done_ (by kernel_rfl) ?_
          (try clear hHeld)
          have hws : wrap64 (SA + X + SB) = SA + X + SB := wr64 (by omega) (by omega)
          (try rw [hws])
          clear hws
          have hD := hD2.pk_ (SA + X + SB)
          obtain ⟨wn, hq⟩ : ∃ wn, wn = w2.setCell ⟨w.heap.size, 6, none⟩ (.int .i64 (SA + X + SB)) := ⟨_, rfl⟩
          rw [← hq] at hD ⊢
          clear hq hD1 hD2 p6 pz
          clear k0 z0 r0 y0 k1 z1 r1 y1 k2 z2 r2 y2 k3 z3 r3 y3 k4 z4 r4 y4 k5 z5 r5 y5 k6 z6 r6 y6 k7 z7 r7 y7 x0 x1 HD
          have k0 := hD.k0; have k1 := hD.k1; have k2 := hD.k2; have k3 := hD.k3; have k4 := hD.k4; have k5 := hD.k5; have k6 := hD.k6; have k7 := hD.k7; have z0 := hD.kz 0; have z1 := hD.kz 1; have z2 := hD.kz 2; have z3 := hD.kz 3; have z4 := hD.kz 4; have z5 := hD.kz 5; have z6 := hD.kz 6; have z7 := hD.kz 7; have r0 := hD.r0; have r1 := hD.r1; have r2 := hD.r2; have r3 := hD.r3; have r4 := hD.r4; have r5 := hD.r5; have r6 := hD.r6; have r7 := hD.r7; have y0 := hD.rz 0; have y1 := hD.rz 1; have y2 := hD.rz 2; have y3 := hD.rz 3; have y4 := hD.rz 4; have y5 := hD.rz 5; have y6 := hD.rz 6; have y7 := hD.rz 7; have x0 := HX0.out _ hD.rw_; have x1 := HX1.out _ hD.rc; have HD := Lib.hid hD; clear hD
          go_wp2_with fail
          refine bodyPost_ret (v := .tuple #[.agg #[.slice A2 th2.length c2, .slice A4 sv2.length c4, .slice Ag gr.length cg, .int .i64 em, .int .i64 sd, .int .i64 dn, .int .i64 (SA + X + SB), .int .i64 (co + Y)], .int .i64 0]) (by simp [results, Try.f24, go_sem, k0, k1, k2, k3, k4, k5, k6, k7, r0, r1, r2, r3, r4, r5, r6, r7, y0, y1, y2, y3, y4, y5, y6, y7]) rfl ?_
          exact HD.out.done (by rw [HE.out]) (fun _ => by rw [HE.out]; exact HREL.out)
        · have hpb : decide (pk < SA + X + SB) = false := by simp; omega
          rw [show max pk (SA + SB + X) = pk by omega] at hrel
          have HREL := Lib.hid hrel
          clear hrel hp
          go_wp2_with (go_at_call 35; first | ((with_reducible refine (HRD.out _ HD.out).mono ?_); (rintro e wn ⟨rfl, hdr⟩; have hD := HD.out.below hdr.below; clear k0 z0 r0 y0 k1 z1 r1 y1 k2 z2 r2 y2 k3 z3 r3 y3 k4 z4 r4 y4 k5 z5 r5 y5 k6 z6 r6 y6 k7 z7 r7 y7 x0 x1 HD; have k0 := hD.k0; have k1 := hD.k1; have k2 := hD.k2; have k3 := hD.k3; have k4 := hD.k4; have k5 := hD.k5; have k6 := hD.k6; have k7 := hD.k7; have z0 := hD.kz 0; have z1 := hD.kz 1; have z2 := hD.kz 2; have z3 := hD.kz 3; have z4 := hD.kz 4; have z5 := hD.kz 5; have z6 := hD.kz 6; have z7 := hD.kz 7; have r0 := hD.r0; have r1 := hD.r1; have r2 := hD.r2; have r3 := hD.r3; have r4 := hD.r4; have r5 := hD.r5; have r6 := hD.r6; have r7 := hD.r7; have y0 := hD.rz 0; have y1 := hD.rz 1; have y2 := hD.rz 2; have y3 := hD.rz 3; have y4 := hD.rz 4; have y5 := hD.rz 5; have y6 := hD.rz 6; have y7 := hD.rz 7; have x0 := HX0.out _ hD.rw_; have x1 := HX1.out _ hD.rc; have HD := Lib.hid hD; clear hD; clear hdr)) | ((with_reducible refine (HSV.out _ HD.out).mono ?_); (rintro e wn ⟨rfl, hdr⟩; have hD := HD.out.below hdr.below; clear k0 z0 r0 y0 k1 z1 r1 y1 k2 z2 r2 y2 k3 z3 r3 y3 k4 z4 r4 y4 k5 z5 r5 y5 k6 z6 r6 y6 k7 z7 r7 y7 x0 x1 HD; have k0 := hD.k0; have k1 := hD.k1; have k2 := hD.k2; have k3 := hD.k3; have k4 := hD.k4; have k5 := hD.k5; have k6 := hD.k6; have k7 := hD.k7; have z0 := hD.kz 0; have z1 := hD.kz 1; have z2 := hD.kz 2; have z3 := hD.kz 3; have z4 := hD.kz 4; have z5 := hD.kz 5; have z6 := hD.kz 6; have z7 := hD.kz 7; have r0 := hD.r0; have r1 := hD.r1; have r2 := hD.r2; have r3 := hD.r3; have r4 := hD.r4; have r5 := hD.r5; have r6 := hD.r6; have r7 := hD.r7; have y0 := hD.rz 0; have y1 := hD.rz 1; have y2 := hD.rz 2; have y3 := hD.rz 3; have y4 := hD.rz 4; have y5 := hD.rz 5; have y6 := hD.rz 6; have y7 := hD.rz 7; have x0 := HX0.out _ hD.rw_; have x1 := HX1.out _ hD.rc; have HD := Lib.hid hD; clear hD; clear hdr)) | ((with_reducible refine (HTH.out _ HD.out).mono ?_); (rintro e wn ⟨rfl, hdr⟩; have hD := HD.out.below hdr.below; clear k0 z0 r0 y0 k1 z1 r1 y1 k2 z2 r2 y2 k3 z3 r3 y3 k4 z4 r4 y4 k5 z5 r5 y5 k6 z6 r6 y6 k7 z7 r7 y7 x0 x1 HD; have k0 := hD.k0; have k1 := hD.k1; have k2 := hD.k2; have k3 := hD.k3; have k4 := hD.k4; have k5 := hD.k5; have k6 := hD.k6; have k7 := hD.k7; have z0 := hD.kz 0; have z1 := hD.kz 1; have z2 := hD.kz 2; have z3 := hD.kz 3; have z4 := hD.kz 4; have z5 := hD.kz 5; have z6 := hD.kz 6; have z7 := hD.kz 7; have r0 := hD.r0; have r1 := hD.r1; have r2 := hD.r2; have r3 := hD.r3; have r4 := hD.r4; have r5 := hD.r5; have r6 := hD.r6; have r7 := hD.r7; have y0 := hD.rz 0; have y1 := hD.rz 1; have y2 := hD.rz 2; have y3 := hD.rz 3; have y4 := hD.rz 4; have y5 := hD.rz 5; have y6 := hD.rz 6; have y7 := hD.rz 7; have x0 := HX0.out _ hD.rw_; have x1 := HX1.out _ hD.rc; have HD := Lib.hid hD; clear hD; clear hdr)))
          have wA : IntKind.i64.wrap (SA + SB) = SA + SB := IntWalk.i64_in _ (by omega)
          have wB : IntKind.i64.wrap (SA + SB + X) = SA + SB + X := IntWalk.i64_in _ (by omega)
          go_quiet ((go_at_call 36; first | (with_reducible exact q1_ (fun j => (HSM.out _ (HD.out.drewN j)).1)) | (with_reducible exact q1_ (fun j => (HSM.out _ (HD.out.drewN j)).2))))
          clear wA wB hcb
          have hD := HD.out.drewN nq
          obtain ⟨wq, hq⟩ : ∃ wq, wq = wn.drewN nq := ⟨_, rfl⟩
          rw [← hq] at hD ⊢
          clear hq
          clear k0 z0 r0 y0 k1 z1 r1 y1 k2 z2 r2 y2 k3 z3 r3 y3 k4 z4 r4 y4 k5 z5 r5 y5 k6 z6 r6 y6 k7 z7 r7 y7 x0 x1 HD
          have k0 := hD.k0; have k1 := hD.k1; have k2 := hD.k2; have k3 := hD.k3; have k4 := hD.k4; have k5 := hD.k5; have k6 := hD.k6; have k7 := hD.k7; have z0 := hD.kz 0; have z1 := hD.kz 1; have z2 := hD.kz 2; have z3 := hD.kz 3; have z4 := hD.kz 4; have z5 := hD.kz 5; have z6 := hD.kz 6; have z7 := hD.kz 7; have r0 := hD.r0; have r1 := hD.r1; have r2 := hD.r2; have r3 := hD.r3; have r4 := hD.r4; have r5 := hD.r5; have r6 := hD.r6; have r7 := hD.r7; have y0 := hD.rz 0; have y1 := hD.rz 1; have y2 := hD.rz 2; have y3 := hD.rz 3; have y4 := hD.rz 4; have y5 := hD.rz 5; have y6 := hD.rz 6; have y7 := hD.rz 7; have x0 := HX0.out _ hD.rw_; have x1 := HX1.out _ hD.rc; have HD := Lib.hid hD; clear hD
          go_wp2_with fail
          refine (HW1.out _ HD.out).mono ?_
          rintro e wn ⟨A2, c2, rfl, hl2, hr2, hD⟩
          have HL2 := Lib.hid hl2
          have HR2 := Lib.hid hr2
          clear hl2 hr2
          clear k0 z0 r0 y0 k1 z1 r1 y1 k2 z2 r2 y2 k3 z3 r3 y3 k4 z4 r4 y4 k5 z5 r5 y5 k6 z6 r6 y6 k7 z7 r7 y7 x0 x1 HD
          have k0 := hD.k0; have k1 := hD.k1; have k2 := hD.k2; have k3 := hD.k3; have k4 := hD.k4; have k5 := hD.k5; have k6 := hD.k6; have k7 := hD.k7; have z0 := hD.kz 0; have z1 := hD.kz 1; have z2 := hD.kz 2; have z3 := hD.kz 3; have z4 := hD.kz 4; have z5 := hD.kz 5; have z6 := hD.kz 6; have z7 := hD.kz 7; have r0 := hD.r0; have r1 := hD.r1; have r2 := hD.r2; have r3 := hD.r3; have r4 := hD.r4; have r5 := hD.r5; have r6 := hD.r6; have r7 := hD.r7; have y0 := hD.rz 0; have y1 := hD.rz 1; have y2 := hD.rz 2; have y3 := hD.rz 3; have y4 := hD.rz 4; have y5 := hD.rz 5; have y6 := hD.rz 6; have y7 := hD.rz 7; have x0 := HX0.out _ hD.rw_; have x1 := HX1.out _ hD.rc; have HD := Lib.hid hD; clear hD
          go_wp2_with fail
          have hD := HD.out.th_ HR2.out HL2.out
          obtain ⟨wq, hq⟩ : ∃ wq, wq = wn.setCell ⟨w.heap.size, 0, none⟩ (.slice A2 th2.length c2) := ⟨_, rfl⟩
          rw [← hq] at hD ⊢
          clear hq HR2 HL2
          clear k0 z0 r0 y0 k1 z1 r1 y1 k2 z2 r2 y2 k3 z3 r3 y3 k4 z4 r4 y4 k5 z5 r5 y5 k6 z6 r6 y6 k7 z7 r7 y7 x0 x1 HD
          have k0 := hD.k0; have k1 := hD.k1; have k2 := hD.k2; have k3 := hD.k3; have k4 := hD.k4; have k5 := hD.k5; have k6 := hD.k6; have k7 := hD.k7; have z0 := hD.kz 0; have z1 := hD.kz 1; have z2 := hD.kz 2; have z3 := hD.kz 3; have z4 := hD.kz 4; have z5 := hD.kz 5; have z6 := hD.kz 6; have z7 := hD.kz 7; have r0 := hD.r0; have r1 := hD.r1; have r2 := hD.r2; have r3 := hD.r3; have r4 := hD.r4; have r5 := hD.r5; have r6 := hD.r6; have r7 := hD.r7; have y0 := hD.rz 0; have y1 := hD.rz 1; have y2 := hD.rz 2; have y3 := hD.rz 3; have y4 := hD.rz 4; have y5 := hD.rz 5; have y6 := hD.rz 6; have y7 := hD.rz 7; have x0 := HX0.out _ hD.rw_; have x1 := HX1.out _ hD.rc; have HD := Lib.hid hD; clear hD
          refine (HW2.out _ _ _ HD.out).mono ?_
          rintro e wn ⟨A3, c3, rfl, hl3, hr3, hD⟩
          have HL3' := Lib.hid hl3
          have HR3 := Lib.hid hr3
          clear hl3 hr3
          clear k0 z0 r0 y0 k1 z1 r1 y1 k2 z2 r2 y2 k3 z3 r3 y3 k4 z4 r4 y4 k5 z5 r5 y5 k6 z6 r6 y6 k7 z7 r7 y7 x0 x1 HD
          have k0 := hD.k0; have k1 := hD.k1; have k2 := hD.k2; have k3 := hD.k3; have k4 := hD.k4; have k5 := hD.k5; have k6 := hD.k6; have k7 := hD.k7; have z0 := hD.kz 0; have z1 := hD.kz 1; have z2 := hD.kz 2; have z3 := hD.kz 3; have z4 := hD.kz 4; have z5 := hD.kz 5; have z6 := hD.kz 6; have z7 := hD.kz 7; have r0 := hD.r0; have r1 := hD.r1; have r2 := hD.r2; have r3 := hD.r3; have r4 := hD.r4; have r5 := hD.r5; have r6 := hD.r6; have r7 := hD.r7; have y0 := hD.rz 0; have y1 := hD.rz 1; have y2 := hD.rz 2; have y3 := hD.rz 3; have y4 := hD.rz 4; have y5 := hD.rz 5; have y6 := hD.rz 6; have y7 := hD.rz 7; have x0 := HX0.out _ hD.rw_; have x1 := HX1.out _ hD.rc; have HD := Lib.hid hD; clear hD
          go_wp2_with fail
          refine (HW3.out _ _ _ _ _ HD.out HR3.out HL3'.out).mono ?_
          rintro e wn ⟨A4, c4, rfl, hl4, hr4, hD⟩
          have HL4 := Lib.hid hl4
          have HR4 := Lib.hid hr4
          clear hl4 hr4 HR3 HL3'
          clear k0 z0 r0 y0 k1 z1 r1 y1 k2 z2 r2 y2 k3 z3 r3 y3 k4 z4 r4 y4 k5 z5 r5 y5 k6 z6 r6 y6 k7 z7 r7 y7 x0 x1 HD
          have k0 := hD.k0; have k1 := hD.k1; have k2 := hD.k2; have k3 := hD.k3; have k4 := hD.k4; have k5 := hD.k5; have k6 := hD.k6; have k7 := hD.k7; have z0 := hD.kz 0; have z1 := hD.kz 1; have z2 := hD.kz 2; have z3 := hD.kz 3; have z4 := hD.kz 4; have z5 := hD.kz 5; have z6 := hD.kz 6; have z7 := hD.kz 7; have r0 := hD.r0; have r1 := hD.r1; have r2 := hD.r2; have r3 := hD.r3; have r4 := hD.r4; have r5 := hD.r5; have r6 := hD.r6; have r7 := hD.r7; have y0 := hD.rz 0; have y1 := hD.rz 1; have y2 := hD.rz 2; have y3 := hD.rz 3; have y4 := hD.rz 4; have y5 := hD.rz 5; have y6 := hD.rz 6; have y7 := hD.rz 7; have x0 := HX0.out _ hD.rw_; have x1 := HX1.out _ hD.rc; have HD := Lib.hid hD; clear hD
          go_wp2_with fail
          have hD := HD.out.sv_ HR4.out HL4.out
          obtain ⟨wq, hq⟩ : ∃ wq, wq = wn.setCell ⟨w.heap.size, 1, none⟩ (.slice A4 sv2.length c4) := ⟨_, rfl⟩
          rw [← hq] at hD ⊢
          clear hq HR4 HL4
          clear k0 z0 r0 y0 k1 z1 r1 y1 k2 z2 r2 y2 k3 z3 r3 y3 k4 z4 r4 y4 k5 z5 r5 y5 k6 z6 r6 y6 k7 z7 r7 y7 x0 x1 HD
          have k0 := hD.k0; have k1 := hD.k1; have k2 := hD.k2; have k3 := hD.k3; have k4 := hD.k4; have k5 := hD.k5; have k6 := hD.k6; have k7 := hD.k7; have z0 := hD.kz 0; have z1 := hD.kz 1; have z2 := hD.kz 2; have z3 := hD.kz 3; have z4 := hD.kz 4; have z5 := hD.kz 5; have z6 := hD.kz 6; have z7 := hD.kz 7; have r0 := hD.r0; have r1 := hD.r1; have r2 := hD.r2; have r3 := hD.r3; have r4 := hD.r4; have r5 := hD.r5; have r6 := hD.r6; have r7 := hD.r7; have y0 := hD.rz 0; have y1 := hD.rz 1; have y2 := hD.rz 2; have y3 := hD.rz 3; have y4 := hD.rz 4; have y5 := hD.rz 5; have y6 := hD.rz 6; have y7 := hD.rz 7; have x0 := HX0.out _ hD.rw_; have x1 := HX1.out _ hD.rc; have HD := Lib.hid hD; clear hD
          have hwi := HWI.out
          refine start_ (n := 10) (S := fun w' => w'.cell? ⟨w.heap.size, 7, none⟩ = some (.int .i64 co) ∧ w'.cell? ⟨b1, o1 + (id - 1), none⟩ = some (.int .i64 Y)) (ds := [9]) #[false, false, false, false, false, false, false, false, false, false] (by kernel_rfl) rfl rfl ⟨k7, x1⟩ (fun hHeld => ?_)
          refine pure_ (i := 0) (N := some 76) (v := ?_) (a' := ?_) #[true, false, false, false, false, false, false, false, false, false] rfl rfl (by kernel_rfl) (fun _ _ _ h => h) (Or.inl ⟨by rfl, ?_⟩) ?_ ?_
          rotate_left
          · intro w'
            go_simp
            with_reducible rfl
          rotate_left
          · simp only [Act.put, List.setIfInBounds_toArray, List.set_cons_zero, List.set_cons_succ, i64_w, i32_w]
            rfl
          refine pure_ (i := 2) (N := some 78) (v := ?_) (a' := ?_) #[true, false, true, false, false, false, false, false, false, false] rfl rfl (by kernel_rfl) (fun _ _ _ h => h) (Or.inl ⟨by rfl, ?_⟩) ?_ ?_
          rotate_left
          · intro w'
            go_simp
            with_reducible rfl
          rotate_left
          · simp only [Act.put, List.setIfInBounds_toArray, List.set_cons_zero, List.set_cons_succ, i64_w, i32_w]
            rfl
          refine pure_ (i := 3) (N := some 79) (v := ?_) (a' := ?_) #[true, false, true, true, false, false, false, false, false, false] rfl rfl (by kernel_rfl) (fun _ _ _ h => h) (Or.inl ⟨by rfl, ?_⟩) ?_ ?_
          rotate_left
          · intro w'
            go_simp
            with_reducible rfl
          rotate_left
          · simp only [Act.put, List.setIfInBounds_toArray, List.set_cons_zero, List.set_cons_succ, i64_w, i32_w]
            rfl
          refine pure_ (i := 4) (N := some 80) (v := ?_) (a' := ?_) #[true, false, true, true, true, false, false, false, false, false] rfl rfl (by kernel_rfl) (fun _ _ _ h => h) (Or.inl ⟨by rfl, ?_⟩) ?_ ?_
          rotate_left
          · intro w'
            go_simp
            with_reducible rfl
          rotate_left
          · simp only [Act.put, List.setIfInBounds_toArray, List.set_cons_zero, List.set_cons_succ, i64_w, i32_w]
            rfl
          refine pure_ (i := 5) (N := some 81) (v := ?_) (a' := ?_) #[true, false, true, true, true, true, false, false, false, false] rfl rfl (by kernel_rfl) (fun _ _ _ h => h) (Or.inl ⟨by rfl, ?_⟩) ?_ ?_
          rotate_left
          · intro w'
            go_simp
            with_reducible rfl
          rotate_left
          · simp only [Act.put, List.setIfInBounds_toArray, List.set_cons_zero, List.set_cons_succ, i64_w, i32_w]
            rfl
          refine take_ (i := 1) (N := some 77) (v := ?_) (a' := ?_) #[true, true, true, true, true, true, false, false, false, false] rfl rfl (by kernel_rfl) (fun _ _ _ h => h) (Or.inl ⟨by rfl, ?_⟩) hHeld ?_ ?_
          rotate_left
          · rintro w' ⟨s0, s1⟩
            go_simp
            with_reducible rfl
          rotate_left
          · simp only [Act.put, List.setIfInBounds_toArray, List.set_cons_zero, List.set_cons_succ, i64_w, i32_w]
            rfl
          refine take_ (i := 6) (N := some 82) (v := ?_) (a' := ?_) #[true, true, true, true, true, true, true, false, false, false] rfl rfl (by kernel_rfl) (fun _ _ _ h => h) (Or.inl ⟨by rfl, ?_⟩) hHeld ?_ ?_
          rotate_left
          · rintro w' ⟨s0, s1⟩
            go_simp
            with_reducible rfl
          rotate_left
          · simp only [Act.put, List.setIfInBounds_toArray, List.set_cons_zero, List.set_cons_succ, i64_w, i32_w]
            rfl
          refine pure_ (i := 7) (N := some 83) (v := ?_) (a' := ?_) #[true, true, true, true, true, true, true, true, false, false] rfl rfl (by kernel_rfl) (fun _ _ _ h => h) (Or.inl ⟨by rfl, ?_⟩) ?_ ?_
          rotate_left
          · intro w'
            go_simp
            with_reducible rfl
          rotate_left
          · simp only [Act.put, List.setIfInBounds_toArray, List.set_cons_zero, List.set_cons_succ, i64_w, i32_w]
            rfl
          refine pure_ (i := 8) (N := some 84) (v := ?_) (a' := ?_) #[true, true, true, true, true, true, true, true, true, false] rfl rfl (by kernel_rfl) (fun _ _ _ h => h) (Or.inl ⟨by rfl, ?_⟩) ?_ ?_
          rotate_left
          · intro w'
            go_simp
            with_reducible rfl
          rotate_left
          · simp only [Act.put, List.setIfInBounds_toArray, List.set_cons_zero, List.set_cons_succ, i64_w, i32_w]
            rfl
          refine last_ (i := 9) (N := none) #[true, true, true, true, true, true, true, true, true, true] rfl rfl (by kernel_rfl) (by decide) (fun K hK => ?_)
          refine skip_ (w1 := ?_) (by rfl) rfl ?_ ?_
          rotate_left
          · go_simp
            rfl
          refine hK.out _ _ ?_
          clear hK K
          refine done_ (by kernel_rfl) ?_
          rw [HWC.out]
          clear hwi
          (try clear hHeld)
          have hD := (HD.out.co_ (co + Y)).drew
          obtain ⟨wn, hq⟩ : ∃ wn, wn = (wq.setCell ⟨w.heap.size, 7, none⟩ (.int .i64 (co + Y))).drew := ⟨_, rfl⟩
          rw [← hq] at hD ⊢
          clear hq
          clear k0 z0 r0 y0 k1 z1 r1 y1 k2 z2 r2 y2 k3 z3 r3 y3 k4 z4 r4 y4 k5 z5 r5 y5 k6 z6 r6 y6 k7 z7 r7 y7 x0 x1 HD
          have k0 := hD.k0; have k1 := hD.k1; have k2 := hD.k2; have k3 := hD.k3; have k4 := hD.k4; have k5 := hD.k5; have k6 := hD.k6; have k7 := hD.k7; have z0 := hD.kz 0; have z1 := hD.kz 1; have z2 := hD.kz 2; have z3 := hD.kz 3; have z4 := hD.kz 4; have z5 := hD.kz 5; have z6 := hD.kz 6; have z7 := hD.kz 7; have r0 := hD.r0; have r1 := hD.r1; have r2 := hD.r2; have r3 := hD.r3; have r4 := hD.r4; have r5 := hD.r5; have r6 := hD.r6; have r7 := hD.r7; have y0 := hD.rz 0; have y1 := hD.rz 1; have y2 := hD.rz 2; have y3 := hD.rz 3; have y4 := hD.rz 4; have y5 := hD.rz 5; have y6 := hD.rz 6; have y7 := hD.rz 7; have x0 := HX0.out _ hD.rw_; have x1 := HX1.out _ hD.rc; have HD := Lib.hid hD; clear hD
          go_wp2_with fail
          have wC : IntKind.i64.wrap (SA + X + SB) = SA + X + SB := IntWalk.i64_in _ (by omega)
          go_quiet ((go_at_call 36; first | (with_reducible exact q1_ (fun j => (HS2.out _ _ _ _ _ _ _ (HD.out.drewN j)).1)) | (with_reducible exact q1_ (fun j => (HS2.out _ _ _ _ _ _ _ (HD.out.drewN j)).2))))
          clear wC hpb
          have hD := HD.out.drewN nq
          obtain ⟨wq, hq⟩ : ∃ wq, wq = wn.drewN nq := ⟨_, rfl⟩
          rw [← hq] at hD ⊢
          clear hq
          clear k0 z0 r0 y0 k1 z1 r1 y1 k2 z2 r2 y2 k3 z3 r3 y3 k4 z4 r4 y4 k5 z5 r5 y5 k6 z6 r6 y6 k7 z7 r7 y7 x0 x1 HD
          have k0 := hD.k0; have k1 := hD.k1; have k2 := hD.k2; have k3 := hD.k3; have k4 := hD.k4; have k5 := hD.k5; have k6 := hD.k6; have k7 := hD.k7; have z0 := hD.kz 0; have z1 := hD.kz 1; have z2 := hD.kz 2; have z3 := hD.kz 3; have z4 := hD.kz 4; have z5 := hD.kz 5; have z6 := hD.kz 6; have z7 := hD.kz 7; have r0 := hD.r0; have r1 := hD.r1; have r2 := hD.r2; have r3 := hD.r3; have r4 := hD.r4; have r5 := hD.r5; have r6 := hD.r6; have r7 := hD.r7; have y0 := hD.rz 0; have y1 := hD.rz 1; have y2 := hD.rz 2; have y3 := hD.rz 3; have y4 := hD.rz 4; have y5 := hD.rz 5; have y6 := hD.rz 6; have y7 := hD.rz 7; have x0 := HX0.out _ hD.rw_; have x1 := HX1.out _ hD.rc; have HD := Lib.hid hD; clear hD
          go_wp2_with fail
          refine bodyPost_ret (v := .tuple #[.agg #[.slice A2 th2.length c2, .slice A4 sv2.length c4, .slice Ag gr.length cg, .int .i64 em, .int .i64 sd, .int .i64 dn, .int .i64 pk, .int .i64 (co + Y)], .int .i64 0]) (by simp [results, Try.f24, go_sem, k0, k1, k2, k3, k4, k5, k6, k7, r0, r1, r2, r3, r4, r5, r6, r7, y0, y1, y2, y3, y4, y5, y6, y7]) rfl ?_
          exact HD.out.done (by rw [HE.out]) (fun _ => by rw [HE.out]; exact HREL.out)
end Go.Proofs.Ytiejdbdbafmccaa
/- part ChRfA -/
namespace Go.Proofs.Ytiejdbdbafmccaa
open Go.RowKit Go.Proofs.YtiejdbdbafmccaaW.PrintWords Go.Proofs.YtiejdbdbafmccaaW.PrintLast Go.Proofs.Ytiejdbdbafmccaa.PCh
set_option maxRecDepth 100000 in
set_option maxHeartbeats 8000000 in
theorem do_bad1 {w : World} {A0 : Option Addr} {c0 : Nat} {A1 : Option Addr} {c1 : Nat} {ws cs : List Int} {cap : Int} {At : Option Addr} {ct : Nat} {As : Option Addr} {cs' : Nat} {Ag : Option Addr} {cg : Nat} {th sv gr : List Int} {em sd dn pk co : Int} {t : Nat} {x : Wk} (h : DoPre w A0 c0 A1 c1 ws cs cap At ct As cs' Ag cg th sv gr em sd dn pk co t x) (id : Nat) (hk : OkI cs.length 1 id) (hmy : mayB x cs.length 1 id = false) :
    Calls Try.prog 24 #[.slice A0 ws.length c0, .slice A1 cs.length c1, .int .i64 cap, .agg (scells At ct As cs' Ag cg th sv gr em sd dn pk co), .int .i64 1, .int .i64 (id : Int)] w (DoR w ws cs cap (t + 1) (doW x ws cs cap 1 id)) := by
  have ht := h.rt_
  have hlen := ht.len
  have hlo := ht.lo
  have hhi := ht.hi
  have hin := hk.idn
  have hi1 := hk.id0 (by decide) (by decide)
  have hcp := h.cp
  obtain ⟨b0, o0, e0, _, _⟩ := C_at h.r0 (by omega)
  obtain ⟨b1, o1, e1, _, _⟩ := C_at h.r1 (by omega)
  subst e0
  subst e1
  obtain ⟨W, hW⟩ : ∃ W, W = (w.alloc (.cells (scells At ct As cs' Ag cg th sv gr em sd dn pk co) 61)).alloc (.cells z8 61) := ⟨_, rfl⟩
  have hD := h.start hW
  obtain ⟨RD, hF⟩ := h.facts id hin
  have HX0 : Hid (∀ wr, RdI w.heap.size wr (some ⟨b0, o0, none⟩) ws → wr.cell? ⟨b0, o0 + id, none⟩ = some (.int .i64 (ws.getD id 0))) := Lib.hid fun wr hr => hr.get (by omega)
  have HX1 : Hid (∀ wr, RdI w.heap.size wr (some ⟨b1, o1, none⟩) cs → wr.cell? ⟨b1, o1 + (id - 1), none⟩ = some (.int .i64 (cs.getD (id - 1) 0))) := Lib.hid fun wr hr => hr.get (by omega)
  have HRD := Lib.hid hF.rd
  have HSV : Hid (∀ wr, DI w b0 o0 b1 o1 ws cs At ct As cs' Ag cg th sv gr em sd dn pk co wr → Calls Try.prog 35 #[.slice As sv.length cs', .int .i64 (id : Int)] wr fun e w' => e = .returned (.bool (x.sv id)) ∧ Drawn0 wr w') := Lib.hid fun wr hr => by
    have q := (hF.has (id : Int) wr hr).2.1
    rw [show decide ((id : Int) ∈ sv) = x.sv id from h.rel.sv.has id hi1 hin] at q
    exact q
  have HTH : Hid (∀ wr, DI w b0 o0 b1 o1 ws cs At ct As cs' Ag cg th sv gr em sd dn pk co wr → Calls Try.prog 35 #[.slice At th.length ct, .int .i64 (id : Int)] wr fun e w' => e = .returned (.bool (x.th id)) ∧ Drawn0 wr w') := Lib.hid fun wr hr => by
    have q := (hF.has (id : Int) wr hr).1
    rw [show decide ((id : Int) ∈ th) = x.th id from h.rel.th.has id hi1 hin] at q
    exact q
  have hrdy := hF.rdy hi1
  have hths := h.rel.ths id
  have HDONE : Hid (∀ (E : Int) (wr : World), doW x ws cs cap 1 id = (x, E) → E ≠ 0 → DI w b0 o0 b1 o1 ws cs At ct As cs' Ag cg th sv gr em sd dn pk co wr → _) := Lib.hid fun E wr hE h0 (hr : DI w b0 o0 b1 o1 ws cs At ct As cs' Ag cg th sv gr em sd dn pk co wr) => hr.done (cap := cap) (t := t + 1) (R := doW x ws cs cap 1 id) (E := E) (by rw [hE]) (fun hh => absurd (by rw [hE] at hh; exact hh) h0)
  have i1 : (1 : Int) ≤ (id : Int) := by omega
  have i2 : (id : Int) ≤ 64 := by omega
  have i3 : (id : Int) < (ws.length : Int) := by omega
  have i4 : (0 : Int) ≤ (id : Int) - 1 := by omega
  have i5 : (id : Int) - 1 < (cs.length : Int) := by omega
  have i6 : ((id : Int) - 1).toNat = id - 1 := by omega
  have HW := Lib.hid (show W = (w.alloc (.cells #[.slice At th.length ct, .slice As sv.length cs', .slice Ag gr.length cg, .int .i64 em, .int .i64 sd, .int .i64 dn, .int .i64 pk, .int .i64 co] 61)).alloc (.cells #[.slice none 0 0, .slice none 0 0, .slice none 0 0, .int .i64 0, .int .i64 0, .int .i64 0, .int .i64 0, .int .i64 0] 61) from hW)
  have HDW := Lib.hid hD
  have HWI : Hid (wrap64 ((id : Int) - 1) = (id : Int) - 1) := wr64 (by omega) (by omega)
  have HH := Lib.hid h
  have HE := Lib.hid (show doW x ws cs cap 1 id = (x, 24) by unfold doW; rw [if_pos hmy])
  have hbad : (x.sv id != ((1 : Int) == 2) || x.th id || !(decide (id = 1) || RD)) = true := by
    unfold mayB at hmy
    rw [hrdy] at hmy
    revert hmy hths
    by_cases hi : id = 1
    all_goals cases x.sv id <;> cases x.th id <;> cases RD <;> simp [hi]
  clear hmy hrdy hths hF hk h ht hD hW
  generalize x.sv id = VB at *
  generalize x.th id = TB at *
  have HLEN := Lib.hid hlen
  clear hlen
  by_cases hi : id = 1
  · have hib : ((id : Int) == 1) = true := by simp; omega
    have hid : decide (id = 1) = true := by simp [hi]
    rw [hid] at hbad
    clear hi hid
    have HSB := Lib.hid hbad
    clear hbad
    cases VB <;> cases TB <;> cases RD
    all_goals first | exact absurd HSB.out (by decide) | skip
    all_goals
      go_enter Try.func24, Try.ntmps24
      simp only [scells]
      go_upto_region 2 with (fail)
      rw [← HW.out]
      have hD := HDW.out
      have k0 := hD.k0; have k1 := hD.k1; have k2 := hD.k2; have k3 := hD.k3; have k4 := hD.k4; have k5 := hD.k5; have k6 := hD.k6; have k7 := hD.k7; have z0 := hD.kz 0; have z1 := hD.kz 1; have z2 := hD.kz 2; have z3 := hD.kz 3; have z4 := hD.kz 4; have z5 := hD.kz 5; have z6 := hD.kz 6; have z7 := hD.kz 7; have r0 := hD.r0; have r1 := hD.r1; have r2 := hD.r2; have r3 := hD.r3; have r4 := hD.r4; have r5 := hD.r5; have r6 := hD.r6; have r7 := hD.r7; have y0 := hD.rz 0; have y1 := hD.rz 1; have y2 := hD.rz 2; have y3 := hD.rz 3; have y4 := hD.rz 4; have y5 := hD.rz 5; have y6 := hD.rz 6; have y7 := hD.rz 7; have x0 := HX0.out _ hD.rw_; have x1 := HX1.out _ hD.rc; have HD := Lib.hid hD; clear hD
      go_wp2_with (go_at_call 35; first | ((with_reducible refine (HRD.out _ HD.out).mono ?_); (rintro e wn ⟨rfl, hdr⟩; have hD := HD.out.below hdr.below; clear k0 z0 r0 y0 k1 z1 r1 y1 k2 z2 r2 y2 k3 z3 r3 y3 k4 z4 r4 y4 k5 z5 r5 y5 k6 z6 r6 y6 k7 z7 r7 y7 x0 x1 HD; have k0 := hD.k0; have k1 := hD.k1; have k2 := hD.k2; have k3 := hD.k3; have k4 := hD.k4; have k5 := hD.k5; have k6 := hD.k6; have k7 := hD.k7; have z0 := hD.kz 0; have z1 := hD.kz 1; have z2 := hD.kz 2; have z3 := hD.kz 3; have z4 := hD.kz 4; have z5 := hD.kz 5; have z6 := hD.kz 6; have z7 := hD.kz 7; have r0 := hD.r0; have r1 := hD.r1; have r2 := hD.r2; have r3 := hD.r3; have r4 := hD.r4; have r5 := hD.r5; have r6 := hD.r6; have r7 := hD.r7; have y0 := hD.rz 0; have y1 := hD.rz 1; have y2 := hD.rz 2; have y3 := hD.rz 3; have y4 := hD.rz 4; have y5 := hD.rz 5; have y6 := hD.rz 6; have y7 := hD.rz 7; have x0 := HX0.out _ hD.rw_; have x1 := HX1.out _ hD.rc; have HD := Lib.hid hD; clear hD; clear hdr)) | ((with_reducible refine (HSV.out _ HD.out).mono ?_); (rintro e wn ⟨rfl, hdr⟩; have hD := HD.out.below hdr.below; clear k0 z0 r0 y0 k1 z1 r1 y1 k2 z2 r2 y2 k3 z3 r3 y3 k4 z4 r4 y4 k5 z5 r5 y5 k6 z6 r6 y6 k7 z7 r7 y7 x0 x1 HD; have k0 := hD.k0; have k1 := hD.k1; have k2 := hD.k2; have k3 := hD.k3; have k4 := hD.k4; have k5 := hD.k5; have k6 := hD.k6; have k7 := hD.k7; have z0 := hD.kz 0; have z1 := hD.kz 1; have z2 := hD.kz 2; have z3 := hD.kz 3; have z4 := hD.kz 4; have z5 := hD.kz 5; have z6 := hD.kz 6; have z7 := hD.kz 7; have r0 := hD.r0; have r1 := hD.r1; have r2 := hD.r2; have r3 := hD.r3; have r4 := hD.r4; have r5 := hD.r5; have r6 := hD.r6; have r7 := hD.r7; have y0 := hD.rz 0; have y1 := hD.rz 1; have y2 := hD.rz 2; have y3 := hD.rz 3; have y4 := hD.rz 4; have y5 := hD.rz 5; have y6 := hD.rz 6; have y7 := hD.rz 7; have x0 := HX0.out _ hD.rw_; have x1 := HX1.out _ hD.rc; have HD := Lib.hid hD; clear hD; clear hdr)) | ((with_reducible refine (HTH.out _ HD.out).mono ?_); (rintro e wn ⟨rfl, hdr⟩; have hD := HD.out.below hdr.below; clear k0 z0 r0 y0 k1 z1 r1 y1 k2 z2 r2 y2 k3 z3 r3 y3 k4 z4 r4 y4 k5 z5 r5 y5 k6 z6 r6 y6 k7 z7 r7 y7 x0 x1 HD; have k0 := hD.k0; have k1 := hD.k1; have k2 := hD.k2; have k3 := hD.k3; have k4 := hD.k4; have k5 := hD.k5; have k6 := hD.k6; have k7 := hD.k7; have z0 := hD.kz 0; have z1 := hD.kz 1; have z2 := hD.kz 2; have z3 := hD.kz 3; have z4 := hD.kz 4; have z5 := hD.kz 5; have z6 := hD.kz 6; have z7 := hD.kz 7; have r0 := hD.r0; have r1 := hD.r1; have r2 := hD.r2; have r3 := hD.r3; have r4 := hD.r4; have r5 := hD.r5; have r6 := hD.r6; have r7 := hD.r7; have y0 := hD.rz 0; have y1 := hD.rz 1; have y2 := hD.rz 2; have y3 := hD.rz 3; have y4 := hD.rz 4; have y5 := hD.rz 5; have y6 := hD.rz 6; have y7 := hD.rz 7; have x0 := HX0.out _ hD.rw_; have x1 := HX1.out _ hD.rc; have HD := Lib.hid hD; clear hD; clear hdr)))
      refine bodyPost_ret (v := .tuple #[.agg #[.slice At th.length ct, .slice As sv.length cs', .slice Ag gr.length cg, .int .i64 em, .int .i64 sd, .int .i64 dn, .int .i64 pk, .int .i64 co], .int .i64 24]) (by simp [results, Try.f24, go_sem, k0, k1, k2, k3, k4, k5, k6, k7, r0, r1, r2, r3, r4, r5, r6, r7, y0, y1, y2, y3, y4, y5, y6, y7]) rfl ?_
      exact HDONE.out _ _ HE.out (by decide) HD.out
  · have hib : ((id : Int) == 1) = false := by simp; omega
    have hid : decide (id = 1) = false := by simp [hi]
    rw [hid] at hbad
    clear hi hid
    have HSB := Lib.hid hbad
    clear hbad
    cases VB <;> cases TB <;> cases RD
    all_goals first | exact absurd HSB.out (by decide) | skip
    all_goals
      go_enter Try.func24, Try.ntmps24
      simp only [scells]
      go_upto_region 2 with (fail)
      rw [← HW.out]
      have hD := HDW.out
      have k0 := hD.k0; have k1 := hD.k1; have k2 := hD.k2; have k3 := hD.k3; have k4 := hD.k4; have k5 := hD.k5; have k6 := hD.k6; have k7 := hD.k7; have z0 := hD.kz 0; have z1 := hD.kz 1; have z2 := hD.kz 2; have z3 := hD.kz 3; have z4 := hD.kz 4; have z5 := hD.kz 5; have z6 := hD.kz 6; have z7 := hD.kz 7; have r0 := hD.r0; have r1 := hD.r1; have r2 := hD.r2; have r3 := hD.r3; have r4 := hD.r4; have r5 := hD.r5; have r6 := hD.r6; have r7 := hD.r7; have y0 := hD.rz 0; have y1 := hD.rz 1; have y2 := hD.rz 2; have y3 := hD.rz 3; have y4 := hD.rz 4; have y5 := hD.rz 5; have y6 := hD.rz 6; have y7 := hD.rz 7; have x0 := HX0.out _ hD.rw_; have x1 := HX1.out _ hD.rc; have HD := Lib.hid hD; clear hD
      go_wp2_with (go_at_call 35; first | ((with_reducible refine (HRD.out _ HD.out).mono ?_); (rintro e wn ⟨rfl, hdr⟩; have hD := HD.out.below hdr.below; clear k0 z0 r0 y0 k1 z1 r1 y1 k2 z2 r2 y2 k3 z3 r3 y3 k4 z4 r4 y4 k5 z5 r5 y5 k6 z6 r6 y6 k7 z7 r7 y7 x0 x1 HD; have k0 := hD.k0; have k1 := hD.k1; have k2 := hD.k2; have k3 := hD.k3; have k4 := hD.k4; have k5 := hD.k5; have k6 := hD.k6; have k7 := hD.k7; have z0 := hD.kz 0; have z1 := hD.kz 1; have z2 := hD.kz 2; have z3 := hD.kz 3; have z4 := hD.kz 4; have z5 := hD.kz 5; have z6 := hD.kz 6; have z7 := hD.kz 7; have r0 := hD.r0; have r1 := hD.r1; have r2 := hD.r2; have r3 := hD.r3; have r4 := hD.r4; have r5 := hD.r5; have r6 := hD.r6; have r7 := hD.r7; have y0 := hD.rz 0; have y1 := hD.rz 1; have y2 := hD.rz 2; have y3 := hD.rz 3; have y4 := hD.rz 4; have y5 := hD.rz 5; have y6 := hD.rz 6; have y7 := hD.rz 7; have x0 := HX0.out _ hD.rw_; have x1 := HX1.out _ hD.rc; have HD := Lib.hid hD; clear hD; clear hdr)) | ((with_reducible refine (HSV.out _ HD.out).mono ?_); (rintro e wn ⟨rfl, hdr⟩; have hD := HD.out.below hdr.below; clear k0 z0 r0 y0 k1 z1 r1 y1 k2 z2 r2 y2 k3 z3 r3 y3 k4 z4 r4 y4 k5 z5 r5 y5 k6 z6 r6 y6 k7 z7 r7 y7 x0 x1 HD; have k0 := hD.k0; have k1 := hD.k1; have k2 := hD.k2; have k3 := hD.k3; have k4 := hD.k4; have k5 := hD.k5; have k6 := hD.k6; have k7 := hD.k7; have z0 := hD.kz 0; have z1 := hD.kz 1; have z2 := hD.kz 2; have z3 := hD.kz 3; have z4 := hD.kz 4; have z5 := hD.kz 5; have z6 := hD.kz 6; have z7 := hD.kz 7; have r0 := hD.r0; have r1 := hD.r1; have r2 := hD.r2; have r3 := hD.r3; have r4 := hD.r4; have r5 := hD.r5; have r6 := hD.r6; have r7 := hD.r7; have y0 := hD.rz 0; have y1 := hD.rz 1; have y2 := hD.rz 2; have y3 := hD.rz 3; have y4 := hD.rz 4; have y5 := hD.rz 5; have y6 := hD.rz 6; have y7 := hD.rz 7; have x0 := HX0.out _ hD.rw_; have x1 := HX1.out _ hD.rc; have HD := Lib.hid hD; clear hD; clear hdr)) | ((with_reducible refine (HTH.out _ HD.out).mono ?_); (rintro e wn ⟨rfl, hdr⟩; have hD := HD.out.below hdr.below; clear k0 z0 r0 y0 k1 z1 r1 y1 k2 z2 r2 y2 k3 z3 r3 y3 k4 z4 r4 y4 k5 z5 r5 y5 k6 z6 r6 y6 k7 z7 r7 y7 x0 x1 HD; have k0 := hD.k0; have k1 := hD.k1; have k2 := hD.k2; have k3 := hD.k3; have k4 := hD.k4; have k5 := hD.k5; have k6 := hD.k6; have k7 := hD.k7; have z0 := hD.kz 0; have z1 := hD.kz 1; have z2 := hD.kz 2; have z3 := hD.kz 3; have z4 := hD.kz 4; have z5 := hD.kz 5; have z6 := hD.kz 6; have z7 := hD.kz 7; have r0 := hD.r0; have r1 := hD.r1; have r2 := hD.r2; have r3 := hD.r3; have r4 := hD.r4; have r5 := hD.r5; have r6 := hD.r6; have r7 := hD.r7; have y0 := hD.rz 0; have y1 := hD.rz 1; have y2 := hD.rz 2; have y3 := hD.rz 3; have y4 := hD.rz 4; have y5 := hD.rz 5; have y6 := hD.rz 6; have y7 := hD.rz 7; have x0 := HX0.out _ hD.rw_; have x1 := HX1.out _ hD.rc; have HD := Lib.hid hD; clear hD; clear hdr)))
      refine bodyPost_ret (v := .tuple #[.agg #[.slice At th.length ct, .slice As sv.length cs', .slice Ag gr.length cg, .int .i64 em, .int .i64 sd, .int .i64 dn, .int .i64 pk, .int .i64 co], .int .i64 24]) (by simp [results, Try.f24, go_sem, k0, k1, k2, k3, k4, k5, k6, k7, r0, r1, r2, r3, r4, r5, r6, r7, y0, y1, y2, y3, y4, y5, y6, y7]) rfl ?_
      exact HDONE.out _ _ HE.out (by decide) HD.out
set_option maxRecDepth 100000 in
set_option maxHeartbeats 8000000 in
theorem do_bad2 {w : World} {A0 : Option Addr} {c0 : Nat} {A1 : Option Addr} {c1 : Nat} {ws cs : List Int} {cap : Int} {At : Option Addr} {ct : Nat} {As : Option Addr} {cs' : Nat} {Ag : Option Addr} {cg : Nat} {th sv gr : List Int} {em sd dn pk co : Int} {t : Nat} {x : Wk} (h : DoPre w A0 c0 A1 c1 ws cs cap At ct As cs' Ag cg th sv gr em sd dn pk co t x) (id : Nat) (hk : OkI cs.length 2 id) (hmy : mayB x cs.length 2 id = false) :
    Calls Try.prog 24 #[.slice A0 ws.length c0, .slice A1 cs.length c1, .int .i64 cap, .agg (scells At ct As cs' Ag cg th sv gr em sd dn pk co), .int .i64 2, .int .i64 (id : Int)] w (DoR w ws cs cap (t + 1) (doW x ws cs cap 2 id)) := by
  have ht := h.rt_
  have hlen := ht.len
  have hlo := ht.lo
  have hhi := ht.hi
  have hin := hk.idn
  have hi1 := hk.id0 (by decide) (by decide)
  have hcp := h.cp
  obtain ⟨b0, o0, e0, _, _⟩ := C_at h.r0 (by omega)
  obtain ⟨b1, o1, e1, _, _⟩ := C_at h.r1 (by omega)
  subst e0
  subst e1
  obtain ⟨W, hW⟩ : ∃ W, W = (w.alloc (.cells (scells At ct As cs' Ag cg th sv gr em sd dn pk co) 61)).alloc (.cells z8 61) := ⟨_, rfl⟩
  have hD := h.start hW
  obtain ⟨RD, hF⟩ := h.facts id hin
  have HX0 : Hid (∀ wr, RdI w.heap.size wr (some ⟨b0, o0, none⟩) ws → wr.cell? ⟨b0, o0 + id, none⟩ = some (.int .i64 (ws.getD id 0))) := Lib.hid fun wr hr => hr.get (by omega)
  have HX1 : Hid (∀ wr, RdI w.heap.size wr (some ⟨b1, o1, none⟩) cs → wr.cell? ⟨b1, o1 + (id - 1), none⟩ = some (.int .i64 (cs.getD (id - 1) 0))) := Lib.hid fun wr hr => hr.get (by omega)
  have HRD := Lib.hid hF.rd
  have HSV : Hid (∀ wr, DI w b0 o0 b1 o1 ws cs At ct As cs' Ag cg th sv gr em sd dn pk co wr → Calls Try.prog 35 #[.slice As sv.length cs', .int .i64 (id : Int)] wr fun e w' => e = .returned (.bool (x.sv id)) ∧ Drawn0 wr w') := Lib.hid fun wr hr => by
    have q := (hF.has (id : Int) wr hr).2.1
    rw [show decide ((id : Int) ∈ sv) = x.sv id from h.rel.sv.has id hi1 hin] at q
    exact q
  have HTH : Hid (∀ wr, DI w b0 o0 b1 o1 ws cs At ct As cs' Ag cg th sv gr em sd dn pk co wr → Calls Try.prog 35 #[.slice At th.length ct, .int .i64 (id : Int)] wr fun e w' => e = .returned (.bool (x.th id)) ∧ Drawn0 wr w') := Lib.hid fun wr hr => by
    have q := (hF.has (id : Int) wr hr).1
    rw [show decide ((id : Int) ∈ th) = x.th id from h.rel.th.has id hi1 hin] at q
    exact q
  have hrdy := hF.rdy hi1
  have hths := h.rel.ths id
  have HDONE : Hid (∀ (E : Int) (wr : World), doW x ws cs cap 2 id = (x, E) → E ≠ 0 → DI w b0 o0 b1 o1 ws cs At ct As cs' Ag cg th sv gr em sd dn pk co wr → _) := Lib.hid fun E wr hE h0 (hr : DI w b0 o0 b1 o1 ws cs At ct As cs' Ag cg th sv gr em sd dn pk co wr) => hr.done (cap := cap) (t := t + 1) (R := doW x ws cs cap 2 id) (E := E) (by rw [hE]) (fun hh => absurd (by rw [hE] at hh; exact hh) h0)
  have i1 : (1 : Int) ≤ (id : Int) := by omega
  have i2 : (id : Int) ≤ 64 := by omega
  have i3 : (id : Int) < (ws.length : Int) := by omega
  have i4 : (0 : Int) ≤ (id : Int) - 1 := by omega
  have i5 : (id : Int) - 1 < (cs.length : Int) := by omega
  have i6 : ((id : Int) - 1).toNat = id - 1 := by omega
  have HW := Lib.hid (show W = (w.alloc (.cells #[.slice At th.length ct, .slice As sv.length cs', .slice Ag gr.length cg, .int .i64 em, .int .i64 sd, .int .i64 dn, .int .i64 pk, .int .i64 co] 61)).alloc (.cells #[.slice none 0 0, .slice none 0 0, .slice none 0 0, .int .i64 0, .int .i64 0, .int .i64 0, .int .i64 0, .int .i64 0] 61) from hW)
  have HDW := Lib.hid hD
  have HWI : Hid (wrap64 ((id : Int) - 1) = (id : Int) - 1) := wr64 (by omega) (by omega)
  have HH := Lib.hid h
  have HE := Lib.hid (show doW x ws cs cap 2 id = (x, 24) by unfold doW; rw [if_pos hmy])
  have hbad : (x.sv id != ((2 : Int) == 2) || x.th id || !(decide (id = 1) || RD)) = true := by
    unfold mayB at hmy
    rw [hrdy] at hmy
    revert hmy hths
    by_cases hi : id = 1
    all_goals cases x.sv id <;> cases x.th id <;> cases RD <;> simp [hi]
  clear hmy hrdy hths hF hk h ht hD hW
  generalize x.sv id = VB at *
  generalize x.th id = TB at *
  have HLEN := Lib.hid hlen
  clear hlen
  by_cases hi : id = 1
  · have hib : ((id : Int) == 1) = true := by simp; omega
    have hid : decide (id = 1) = true := by simp [hi]
    rw [hid] at hbad
    clear hi hid
    have HSB := Lib.hid hbad
    clear hbad
    cases VB <;> cases TB <;> cases RD
    all_goals first | exact absurd HSB.out (by decide) | skip
    all_goals
      go_enter Try.func24, Try.ntmps24
      simp only [scells]
      go_upto_region 2 with (fail)
      rw [← HW.out]
      have hD := HDW.out
      have k0 := hD.k0; have k1 := hD.k1; have k2 := hD.k2; have k3 := hD.k3; have k4 := hD.k4; have k5 := hD.k5; have k6 := hD.k6; have k7 := hD.k7; have z0 := hD.kz 0; have z1 := hD.kz 1; have z2 := hD.kz 2; have z3 := hD.kz 3; have z4 := hD.kz 4; have z5 := hD.kz 5; have z6 := hD.kz 6; have z7 := hD.kz 7; have r0 := hD.r0; have r1 := hD.r1; have r2 := hD.r2; have r3 := hD.r3; have r4 := hD.r4; have r5 := hD.r5; have r6 := hD.r6; have r7 := hD.r7; have y0 := hD.rz 0; have y1 := hD.rz 1; have y2 := hD.rz 2; have y3 := hD.rz 3; have y4 := hD.rz 4; have y5 := hD.rz 5; have y6 := hD.rz 6; have y7 := hD.rz 7; have x0 := HX0.out _ hD.rw_; have x1 := HX1.out _ hD.rc; have HD := Lib.hid hD; clear hD
      go_wp2_with (go_at_call 35; first | ((with_reducible refine (HRD.out _ HD.out).mono ?_); (rintro e wn ⟨rfl, hdr⟩; have hD := HD.out.below hdr.below; clear k0 z0 r0 y0 k1 z1 r1 y1 k2 z2 r2 y2 k3 z3 r3 y3 k4 z4 r4 y4 k5 z5 r5 y5 k6 z6 r6 y6 k7 z7 r7 y7 x0 x1 HD; have k0 := hD.k0; have k1 := hD.k1; have k2 := hD.k2; have k3 := hD.k3; have k4 := hD.k4; have k5 := hD.k5; have k6 := hD.k6; have k7 := hD.k7; have z0 := hD.kz 0; have z1 := hD.kz 1; have z2 := hD.kz 2; have z3 := hD.kz 3; have z4 := hD.kz 4; have z5 := hD.kz 5; have z6 := hD.kz 6; have z7 := hD.kz 7; have r0 := hD.r0; have r1 := hD.r1; have r2 := hD.r2; have r3 := hD.r3; have r4 := hD.r4; have r5 := hD.r5; have r6 := hD.r6; have r7 := hD.r7; have y0 := hD.rz 0; have y1 := hD.rz 1; have y2 := hD.rz 2; have y3 := hD.rz 3; have y4 := hD.rz 4; have y5 := hD.rz 5; have y6 := hD.rz 6; have y7 := hD.rz 7; have x0 := HX0.out _ hD.rw_; have x1 := HX1.out _ hD.rc; have HD := Lib.hid hD; clear hD; clear hdr)) | ((with_reducible refine (HSV.out _ HD.out).mono ?_); (rintro e wn ⟨rfl, hdr⟩; have hD := HD.out.below hdr.below; clear k0 z0 r0 y0 k1 z1 r1 y1 k2 z2 r2 y2 k3 z3 r3 y3 k4 z4 r4 y4 k5 z5 r5 y5 k6 z6 r6 y6 k7 z7 r7 y7 x0 x1 HD; have k0 := hD.k0; have k1 := hD.k1; have k2 := hD.k2; have k3 := hD.k3; have k4 := hD.k4; have k5 := hD.k5; have k6 := hD.k6; have k7 := hD.k7; have z0 := hD.kz 0; have z1 := hD.kz 1; have z2 := hD.kz 2; have z3 := hD.kz 3; have z4 := hD.kz 4; have z5 := hD.kz 5; have z6 := hD.kz 6; have z7 := hD.kz 7; have r0 := hD.r0; have r1 := hD.r1; have r2 := hD.r2; have r3 := hD.r3; have r4 := hD.r4; have r5 := hD.r5; have r6 := hD.r6; have r7 := hD.r7; have y0 := hD.rz 0; have y1 := hD.rz 1; have y2 := hD.rz 2; have y3 := hD.rz 3; have y4 := hD.rz 4; have y5 := hD.rz 5; have y6 := hD.rz 6; have y7 := hD.rz 7; have x0 := HX0.out _ hD.rw_; have x1 := HX1.out _ hD.rc; have HD := Lib.hid hD; clear hD; clear hdr)) | ((with_reducible refine (HTH.out _ HD.out).mono ?_); (rintro e wn ⟨rfl, hdr⟩; have hD := HD.out.below hdr.below; clear k0 z0 r0 y0 k1 z1 r1 y1 k2 z2 r2 y2 k3 z3 r3 y3 k4 z4 r4 y4 k5 z5 r5 y5 k6 z6 r6 y6 k7 z7 r7 y7 x0 x1 HD; have k0 := hD.k0; have k1 := hD.k1; have k2 := hD.k2; have k3 := hD.k3; have k4 := hD.k4; have k5 := hD.k5; have k6 := hD.k6; have k7 := hD.k7; have z0 := hD.kz 0; have z1 := hD.kz 1; have z2 := hD.kz 2; have z3 := hD.kz 3; have z4 := hD.kz 4; have z5 := hD.kz 5; have z6 := hD.kz 6; have z7 := hD.kz 7; have r0 := hD.r0; have r1 := hD.r1; have r2 := hD.r2; have r3 := hD.r3; have r4 := hD.r4; have r5 := hD.r5; have r6 := hD.r6; have r7 := hD.r7; have y0 := hD.rz 0; have y1 := hD.rz 1; have y2 := hD.rz 2; have y3 := hD.rz 3; have y4 := hD.rz 4; have y5 := hD.rz 5; have y6 := hD.rz 6; have y7 := hD.rz 7; have x0 := HX0.out _ hD.rw_; have x1 := HX1.out _ hD.rc; have HD := Lib.hid hD; clear hD; clear hdr)))
      refine bodyPost_ret (v := .tuple #[.agg #[.slice At th.length ct, .slice As sv.length cs', .slice Ag gr.length cg, .int .i64 em, .int .i64 sd, .int .i64 dn, .int .i64 pk, .int .i64 co], .int .i64 24]) (by simp [results, Try.f24, go_sem, k0, k1, k2, k3, k4, k5, k6, k7, r0, r1, r2, r3, r4, r5, r6, r7, y0, y1, y2, y3, y4, y5, y6, y7]) rfl ?_
      exact HDONE.out _ _ HE.out (by decide) HD.out
  · have hib : ((id : Int) == 1) = false := by simp; omega
    have hid : decide (id = 1) = false := by simp [hi]
    rw [hid] at hbad
    clear hi hid
    have HSB := Lib.hid hbad
    clear hbad
    cases VB <;> cases TB <;> cases RD
    all_goals first | exact absurd HSB.out (by decide) | skip
    all_goals
      go_enter Try.func24, Try.ntmps24
      simp only [scells]
      go_upto_region 2 with (fail)
      rw [← HW.out]
      have hD := HDW.out
      have k0 := hD.k0; have k1 := hD.k1; have k2 := hD.k2; have k3 := hD.k3; have k4 := hD.k4; have k5 := hD.k5; have k6 := hD.k6; have k7 := hD.k7; have z0 := hD.kz 0; have z1 := hD.kz 1; have z2 := hD.kz 2; have z3 := hD.kz 3; have z4 := hD.kz 4; have z5 := hD.kz 5; have z6 := hD.kz 6; have z7 := hD.kz 7; have r0 := hD.r0; have r1 := hD.r1; have r2 := hD.r2; have r3 := hD.r3; have r4 := hD.r4; have r5 := hD.r5; have r6 := hD.r6; have r7 := hD.r7; have y0 := hD.rz 0; have y1 := hD.rz 1; have y2 := hD.rz 2; have y3 := hD.rz 3; have y4 := hD.rz 4; have y5 := hD.rz 5; have y6 := hD.rz 6; have y7 := hD.rz 7; have x0 := HX0.out _ hD.rw_; have x1 := HX1.out _ hD.rc; have HD := Lib.hid hD; clear hD
      go_wp2_with (go_at_call 35; first | ((with_reducible refine (HRD.out _ HD.out).mono ?_); (rintro e wn ⟨rfl, hdr⟩; have hD := HD.out.below hdr.below; clear k0 z0 r0 y0 k1 z1 r1 y1 k2 z2 r2 y2 k3 z3 r3 y3 k4 z4 r4 y4 k5 z5 r5 y5 k6 z6 r6 y6 k7 z7 r7 y7 x0 x1 HD; have k0 := hD.k0; have k1 := hD.k1; have k2 := hD.k2; have k3 := hD.k3; have k4 := hD.k4; have k5 := hD.k5; have k6 := hD.k6; have k7 := hD.k7; have z0 := hD.kz 0; have z1 := hD.kz 1; have z2 := hD.kz 2; have z3 := hD.kz 3; have z4 := hD.kz 4; have z5 := hD.kz 5; have z6 := hD.kz 6; have z7 := hD.kz 7; have r0 := hD.r0; have r1 := hD.r1; have r2 := hD.r2; have r3 := hD.r3; have r4 := hD.r4; have r5 := hD.r5; have r6 := hD.r6; have r7 := hD.r7; have y0 := hD.rz 0; have y1 := hD.rz 1; have y2 := hD.rz 2; have y3 := hD.rz 3; have y4 := hD.rz 4; have y5 := hD.rz 5; have y6 := hD.rz 6; have y7 := hD.rz 7; have x0 := HX0.out _ hD.rw_; have x1 := HX1.out _ hD.rc; have HD := Lib.hid hD; clear hD; clear hdr)) | ((with_reducible refine (HSV.out _ HD.out).mono ?_); (rintro e wn ⟨rfl, hdr⟩; have hD := HD.out.below hdr.below; clear k0 z0 r0 y0 k1 z1 r1 y1 k2 z2 r2 y2 k3 z3 r3 y3 k4 z4 r4 y4 k5 z5 r5 y5 k6 z6 r6 y6 k7 z7 r7 y7 x0 x1 HD; have k0 := hD.k0; have k1 := hD.k1; have k2 := hD.k2; have k3 := hD.k3; have k4 := hD.k4; have k5 := hD.k5; have k6 := hD.k6; have k7 := hD.k7; have z0 := hD.kz 0; have z1 := hD.kz 1; have z2 := hD.kz 2; have z3 := hD.kz 3; have z4 := hD.kz 4; have z5 := hD.kz 5; have z6 := hD.kz 6; have z7 := hD.kz 7; have r0 := hD.r0; have r1 := hD.r1; have r2 := hD.r2; have r3 := hD.r3; have r4 := hD.r4; have r5 := hD.r5; have r6 := hD.r6; have r7 := hD.r7; have y0 := hD.rz 0; have y1 := hD.rz 1; have y2 := hD.rz 2; have y3 := hD.rz 3; have y4 := hD.rz 4; have y5 := hD.rz 5; have y6 := hD.rz 6; have y7 := hD.rz 7; have x0 := HX0.out _ hD.rw_; have x1 := HX1.out _ hD.rc; have HD := Lib.hid hD; clear hD; clear hdr)) | ((with_reducible refine (HTH.out _ HD.out).mono ?_); (rintro e wn ⟨rfl, hdr⟩; have hD := HD.out.below hdr.below; clear k0 z0 r0 y0 k1 z1 r1 y1 k2 z2 r2 y2 k3 z3 r3 y3 k4 z4 r4 y4 k5 z5 r5 y5 k6 z6 r6 y6 k7 z7 r7 y7 x0 x1 HD; have k0 := hD.k0; have k1 := hD.k1; have k2 := hD.k2; have k3 := hD.k3; have k4 := hD.k4; have k5 := hD.k5; have k6 := hD.k6; have k7 := hD.k7; have z0 := hD.kz 0; have z1 := hD.kz 1; have z2 := hD.kz 2; have z3 := hD.kz 3; have z4 := hD.kz 4; have z5 := hD.kz 5; have z6 := hD.kz 6; have z7 := hD.kz 7; have r0 := hD.r0; have r1 := hD.r1; have r2 := hD.r2; have r3 := hD.r3; have r4 := hD.r4; have r5 := hD.r5; have r6 := hD.r6; have r7 := hD.r7; have y0 := hD.rz 0; have y1 := hD.rz 1; have y2 := hD.rz 2; have y3 := hD.rz 3; have y4 := hD.rz 4; have y5 := hD.rz 5; have y6 := hD.rz 6; have y7 := hD.rz 7; have x0 := HX0.out _ hD.rw_; have x1 := HX1.out _ hD.rc; have HD := Lib.hid hD; clear hD; clear hdr)))
      refine bodyPost_ret (v := .tuple #[.agg #[.slice At th.length ct, .slice As sv.length cs', .slice Ag gr.length cg, .int .i64 em, .int .i64 sd, .int .i64 dn, .int .i64 pk, .int .i64 co], .int .i64 24]) (by simp [results, Try.f24, go_sem, k0, k1, k2, k3, k4, k5, k6, k7, r0, r1, r2, r3, r4, r5, r6, r7, y0, y1, y2, y3, y4, y5, y6, y7]) rfl ?_
      exact HDONE.out _ _ HE.out (by decide) HD.out
end Go.Proofs.Ytiejdbdbafmccaa
