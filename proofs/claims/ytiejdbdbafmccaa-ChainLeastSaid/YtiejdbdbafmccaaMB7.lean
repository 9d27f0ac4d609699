/- ChainLeast: for every chain and all numbers the law returns true. Conditions: none. -/
import Derived.Below
import Derived.Deep.Draws
import Derived.Deep.AppendLies
import Derived.Maps.AppendAt
import Derived.OwnWalk
import Derived.Laws.BytesArg
import Derived.Laws.MakeOwn
import Derived.Laws.OwnMore
import Derived.Deep.OwnRows
import Derived.Tactics
import Derived.Lib.ConvBytes
import Derived.Laws.Slices
import Derived.WalkKit
import Derived.KernelRfl
import Derived.RowKit3
import Derived.Deep.LoopGhost
import Derived.Deep.QuietTactic
import Derived.BigQuiet
import Derived.WideLaws
import Derived.Deep.DeepCutAuto
import Derived.Deep.CutBlock
import Derived.Deep.RegionHeld3
import Derived.Laws.Rows
import Derived.Lib.AppendStr
import Derived.ArgAppend
import Derived.Laws.IdiomCopy
import Derived.RowKit
import Derived.OrdersHeld
import Derived.Laws.BitsLemmas
import Derived.Laws.StructEq
import Derived.WalkSpells
import Derived.WalkLawsBesides
import Derived.Lib.Hide
import Derived.Deep.RegionLaw
import Derived.Laws.CopyOwn
import Derived.Laws.Externs
import Derived.Lib.Overlaps
import Derived.Lib.AppendZeros
import Derived.Deep.Slices
import Derived.Deep.Fields
import Derived.ChangeSame
import Derived.ProofKit
import Derived.Test.YtiejdbdbafmccaaProg
import Derived.DeepKeys4
import Derived.Maps.Keyed
import Derived.Lib.AppendZerosOnto
import Derived.OpenShut
import Derived.Test.YtiejdbdbafmccaaRows
import Derived.ShutString
import Derived.ChangeOld
import Derived.Test.YtiejdbdbafmccaaMB6
set_option linter.unusedVariables false
set_option linter.unusedSimpArgs false
/- part PChx20 -/
namespace Go.Proofs.Ytiejdbdbafmccaa.PCh
open Go.RowKit Go.Proofs.YtiejdbdbafmccaaW.PrintWords Go.Proofs.YtiejdbdbafmccaaW.PrintLast Go.Proofs.YtiejdbdbafmccaaW.PrintMore
attribute [local go_sem] max2_int min2_int max_two min_two max_three min_three max_four min_four
set_option linter.unusedVariables false
set_option linter.unusedSimpArgs false
mutual
def athanorref20_Least.j0 : Nat → List Int → List Int → Int → Int → Int → Int → Int → Int → Option (Int)
  | 0, _, _, _, _, _, _, _, _ => none
  | k + 1, x0, x1, x2, x3, x4, x11, x12, x13 => if x2 > 0 then (if 0 ≤ x2 then (if x2 < (x0.length : Int) then (athanorref20_Least.j1 k x0 x1 x2 x3 x4 x11 x12 (rd x0 x2)) else (none)) else (none)) else (athanorref20_Least.j1 k x0 x1 x2 x3 x4 x11 x12 x13)
def athanorref20_Least.j1 : Nat → List Int → List Int → Int → Int → Int → Int → Int → Int → Option (Int)
  | 0, _, _, _, _, _, _, _, _ => none
  | k + 1, x0, x1, x2, x3, x4, x11, x12, x13 => if x3 = (wrap64 (x2 + 1)) then (if x3 = x11 then (if 0 ≤ x11 then (if x11 < (x0.length : Int) then (if (wrap64 ((rd x0 x11) + x13)) > x4 then (some (-1)) else (if 0 ≤ (wrap64 (x11 - 1)) then (if (wrap64 (x11 - 1)) < (x1.length : Int) then (some (rd x1 (wrap64 (x11 - 1)))) else (none)) else (none))) else (none)) else (none)) else (if (wrap64 (x12 + x13)) > x4 then (some (-1)) else (some 0))) else (athanorref20_Least.l0 k x0 x1 x2 x3 x4 x12 (-1) 0 (wrap64 (x2 + 1)))
def athanorref20_Least.l0 : Nat → List Int → List Int → Int → Int → Int → Int → Int → Int → Int → Option (Int)
  | 0, _, _, _, _, _, _, _, _, _ => none
  | k + 1, x0, x1, x2, x3, x4, x12, x14, x15, x16 => if x16 < x3 then (if 0 ≤ x16 then (if x16 < (x0.length : Int) then (if (wrap64 (x16 - 1)) > x2 then (if 0 ≤ (wrap64 (x16 - 1)) then (if (wrap64 (x16 - 1)) < (x0.length : Int) then (athanorref20_Least.j3 k x0 x1 x2 x3 x4 x12 x14 x15 x16 (wrap64 ((wrap64 ((rd x0 x16) + x12)) + (rd x0 (wrap64 (x16 - 1)))))) else (none)) else (none)) else (athanorref20_Least.j3 k x0 x1 x2 x3 x4 x12 x14 x15 x16 (wrap64 ((rd x0 x16) + x12)))) else (none)) else (none)) else (some x14)
def athanorref20_Least.j3 : Nat → List Int → List Int → Int → Int → Int → Int → Int → Int → Int → Int → Option (Int)
  | 0, _, _, _, _, _, _, _, _, _, _ => none
  | k + 1, x0, x1, x2, x3, x4, x12, x14, x15, x16, x17 => if x17 > x4 then (some x14) else (if 0 ≤ (wrap64 (x16 - 1)) then (if (wrap64 (x16 - 1)) < (x1.length : Int) then (if 0 ≤ x16 then (if x16 < (x0.length : Int) then ((athanorref20_Least.f k x0 x1 x16 x3 (wrap64 (x4 - (rd x0 x16)))).bind fun t233 => (if t233 < 0 then (athanorref20_Least.l0 k x0 x1 x2 x3 x4 x12 x14 (wrap64 (x15 + (rd x1 (wrap64 (x16 - 1))))) (wrap64 (x16 + 1))) else ((athanorref20_Least.f k x0 x1 x2 x16 x4).bind fun t234 => (if t234 < 0 then (athanorref20_Least.l0 k x0 x1 x2 x3 x4 x12 x14 (wrap64 (x15 + (rd x1 (wrap64 (x16 - 1))))) (wrap64 (x16 + 1))) else (if x14 < 0 then (athanorref20_Least.l0 k x0 x1 x2 x3 x4 x12 (wrap64 ((wrap64 ((wrap64 (x15 + (rd x1 (wrap64 (x16 - 1))))) + t233)) + t234)) (wrap64 (x15 + (rd x1 (wrap64 (x16 - 1))))) (wrap64 (x16 + 1))) else (if (wrap64 ((wrap64 ((wrap64 (x15 + (rd x1 (wrap64 (x16 - 1))))) + t233)) + t234)) < x14 then (athanorref20_Least.l0 k x0 x1 x2 x3 x4 x12 (wrap64 ((wrap64 ((wrap64 (x15 + (rd x1 (wrap64 (x16 - 1))))) + t233)) + t234)) (wrap64 (x15 + (rd x1 (wrap64 (x16 - 1))))) (wrap64 (x16 + 1))) else (athanorref20_Least.l0 k x0 x1 x2 x3 x4 x12 x14 (wrap64 (x15 + (rd x1 (wrap64 (x16 - 1))))) (wrap64 (x16 + 1))))))))) else (none)) else (none)) else (none)) else (none))
def athanorref20_Least.f : Nat → List Int → List Int → Int → Int → Int → Option (Int)
  | 0, _, _, _, _, _ => none
  | k + 1, l0, l1, a2, a3, a4 => if a3 < (l1.length : Int) then (if 0 ≤ a3 then (if a3 < (l0.length : Int) then (athanorref20_Least.j0 k l0 l1 a2 a3 a4 (l1.length : Int) (rd l0 a3) 0) else (none)) else (none)) else (athanorref20_Least.j0 k l0 l1 a2 a3 a4 (l1.length : Int) 0 0)
end
theorem athanorref20_Least.mono_l : ∀ k, (∀ y0 y1 y2 y3 y4, LeO (athanorref20_Least.f k y0 y1 y2 y3 y4) (athanorref20_Least.f (k + 1) y0 y1 y2 y3 y4)) ∧ (∀ y0 y1 y2 y3 y4 y5 y6 y7, LeO (athanorref20_Least.j0 k y0 y1 y2 y3 y4 y5 y6 y7) (athanorref20_Least.j0 (k + 1) y0 y1 y2 y3 y4 y5 y6 y7)) ∧ (∀ y0 y1 y2 y3 y4 y5 y6 y7, LeO (athanorref20_Least.j1 k y0 y1 y2 y3 y4 y5 y6 y7) (athanorref20_Least.j1 (k + 1) y0 y1 y2 y3 y4 y5 y6 y7)) ∧ (∀ y0 y1 y2 y3 y4 y5 y6 y7 y8, LeO (athanorref20_Least.l0 k y0 y1 y2 y3 y4 y5 y6 y7 y8) (athanorref20_Least.l0 (k + 1) y0 y1 y2 y3 y4 y5 y6 y7 y8)) ∧ (∀ y0 y1 y2 y3 y4 y5 y6 y7 y8 y9, LeO (athanorref20_Least.j3 k y0 y1 y2 y3 y4 y5 y6 y7 y8 y9) (athanorref20_Least.j3 (k + 1) y0 y1 y2 y3 y4 y5 y6 y7 y8 y9))
  | 0 => ⟨fun _ _ _ _ _ r h => by simp [athanorref20_Least.f] at h, fun _ _ _ _ _ _ _ _ r h => by simp [athanorref20_Least.j0] at h, fun _ _ _ _ _ _ _ _ r h => by simp [athanorref20_Least.j1] at h, fun _ _ _ _ _ _ _ _ _ r h => by simp [athanorref20_Least.l0] at h, fun _ _ _ _ _ _ _ _ _ _ r h => by simp [athanorref20_Least.j3] at h⟩
  | k + 1 => by
    obtain ⟨ih0, ih1, ih2, ih3, ih4⟩ := athanorref20_Least.mono_l k
    refine ⟨?_, ?_, ?_, ?_, ?_⟩
    · intro y0 y1 y2 y3 y4
      unfold athanorref20_Least.f
      repeat' first
      | (with_reducible exact ih0 _ _ _ _ _)
      | (with_reducible exact ih1 _ _ _ _ _ _ _ _)
      | (with_reducible exact ih2 _ _ _ _ _ _ _ _)
      | (with_reducible exact ih3 _ _ _ _ _ _ _ _ _)
      | (with_reducible exact ih4 _ _ _ _ _ _ _ _ _ _)
      | (with_reducible exact LeO.refl _)
      | (with_reducible exact LeO.none _)
      | (with_reducible refine LeO.ite ?_ ?_)
      | (with_reducible refine LeO.bind ?_ (fun _ => ?_))
      | exact ih0 _ _ _ _ _
      | exact ih1 _ _ _ _ _ _ _ _
      | exact ih2 _ _ _ _ _ _ _ _
      | exact ih3 _ _ _ _ _ _ _ _ _
      | exact ih4 _ _ _ _ _ _ _ _ _ _
      | exact LeO.none _
      | refine LeO.ite ?_ ?_
      | refine LeO.bind ?_ (fun _ => ?_)
    · intro y0 y1 y2 y3 y4 y5 y6 y7
      unfold athanorref20_Least.j0
      repeat' first
      | (with_reducible exact ih0 _ _ _ _ _)
      | (with_reducible exact ih1 _ _ _ _ _ _ _ _)
      | (with_reducible exact ih2 _ _ _ _ _ _ _ _)
      | (with_reducible exact ih3 _ _ _ _ _ _ _ _ _)
      | (with_reducible exact ih4 _ _ _ _ _ _ _ _ _ _)
      | (with_reducible exact LeO.refl _)
      | (with_reducible exact LeO.none _)
      | (with_reducible refine LeO.ite ?_ ?_)
      | (with_reducible refine LeO.bind ?_ (fun _ => ?_))
      | exact ih0 _ _ _ _ _
      | exact ih1 _ _ _ _ _ _ _ _
      | exact ih2 _ _ _ _ _ _ _ _
      | exact ih3 _ _ _ _ _ _ _ _ _
      | exact ih4 _ _ _ _ _ _ _ _ _ _
      | exact LeO.none _
      | refine LeO.ite ?_ ?_
      | refine LeO.bind ?_ (fun _ => ?_)
    · intro y0 y1 y2 y3 y4 y5 y6 y7
      unfold athanorref20_Least.j1
      repeat' first
      | (with_reducible exact ih0 _ _ _ _ _)
      | (with_reducible exact ih1 _ _ _ _ _ _ _ _)
      | (with_reducible exact ih2 _ _ _ _ _ _ _ _)
      | (with_reducible exact ih3 _ _ _ _ _ _ _ _ _)
      | (with_reducible exact ih4 _ _ _ _ _ _ _ _ _ _)
      | (with_reducible exact LeO.refl _)
      | (with_reducible exact LeO.none _)
      | (with_reducible refine LeO.ite ?_ ?_)
      | (with_reducible refine LeO.bind ?_ (fun _ => ?_))
      | exact ih0 _ _ _ _ _
      | exact ih1 _ _ _ _ _ _ _ _
      | exact ih2 _ _ _ _ _ _ _ _
      | exact ih3 _ _ _ _ _ _ _ _ _
      | exact ih4 _ _ _ _ _ _ _ _ _ _
      | exact LeO.none _
      | refine LeO.ite ?_ ?_
      | refine LeO.bind ?_ (fun _ => ?_)
    · intro y0 y1 y2 y3 y4 y5 y6 y7 y8
      unfold athanorref20_Least.l0
      repeat' first
      | (with_reducible exact ih0 _ _ _ _ _)
      | (with_reducible exact ih1 _ _ _ _ _ _ _ _)
      | (with_reducible exact ih2 _ _ _ _ _ _ _ _)
      | (with_reducible exact ih3 _ _ _ _ _ _ _ _ _)
      | (with_reducible exact ih4 _ _ _ _ _ _ _ _ _ _)
      | (with_reducible exact LeO.refl _)
      | (with_reducible exact LeO.none _)
      | (with_reducible refine LeO.ite ?_ ?_)
      | (with_reducible refine LeO.bind ?_ (fun _ => ?_))
      | exact ih0 _ _ _ _ _
      | exact ih1 _ _ _ _ _ _ _ _
      | exact ih2 _ _ _ _ _ _ _ _
      | exact ih3 _ _ _ _ _ _ _ _ _
      | exact ih4 _ _ _ _ _ _ _ _ _ _
      | exact LeO.none _
      | refine LeO.ite ?_ ?_
      | refine LeO.bind ?_ (fun _ => ?_)
    · intro y0 y1 y2 y3 y4 y5 y6 y7 y8 y9
      unfold athanorref20_Least.j3
      repeat' first
      | (with_reducible exact ih0 _ _ _ _ _)
      | (with_reducible exact ih1 _ _ _ _ _ _ _ _)
      | (with_reducible exact ih2 _ _ _ _ _ _ _ _)
      | (with_reducible exact ih3 _ _ _ _ _ _ _ _ _)
      | (with_reducible exact ih4 _ _ _ _ _ _ _ _ _ _)
      | (with_reducible exact LeO.refl _)
      | (with_reducible exact LeO.none _)
      | (with_reducible refine LeO.ite ?_ ?_)
      | (with_reducible refine LeO.bind ?_ (fun _ => ?_))
      | exact ih0 _ _ _ _ _
      | exact ih1 _ _ _ _ _ _ _ _
      | exact ih2 _ _ _ _ _ _ _ _
      | exact ih3 _ _ _ _ _ _ _ _ _
      | exact ih4 _ _ _ _ _ _ _ _ _ _
      | exact LeO.none _
      | refine LeO.ite ?_ ?_
      | refine LeO.bind ?_ (fun _ => ?_)
theorem athanorref20_Least.mono : ∀ a0 a1 a2 a3 a4 k, LeO (athanorref20_Least.f k a0 a1 a2 a3 a4) (athanorref20_Least.f (k + 1) a0 a1 a2 a3 a4) := by
  intro a0 a1 a2 a3 a4 k
  obtain ⟨ih0, ih1, ih2, ih3, ih4⟩ := athanorref20_Least.mono_l k
  exact ih0 a0 a1 a2 a3 a4
set_option maxHeartbeats 8000000 in
set_option maxRecDepth 100000 in
theorem athanorref20_Least.calls (k : Nat) : ∀ (A0 : Option Addr) (c0 : Nat) (l0 : List Int) (A1 : Option Addr) (c1 : Nat) (l1 : List Int) (a2 : Int) (a3 : Int) (a4 : Int) (r : Int) (w : World) (hr0 : Kd.C (Kd.int .i64) w A0 l0.length l0) (hc0 : l0.length ≤ c0) (hr1 : Kd.C (Kd.int .i64) w A1 l1.length l1) (hc1 : l1.length ≤ c1) (h : athanorref20_Least.f k l0 l1 a2 a3 a4 = some r),
    Calls Try.prog 20 #[.slice A0 l0.length c0, .slice A1 l1.length c1, .int .i64 a2, .int .i64 a3, .int .i64 a4] w fun e w' => e = .returned (.int .i64 r) ∧ Drawn0 w w' := by
  induction k using Nat.strongRecOn with
  | _ k ih =>
  intro A0 c0 l0 A1 c1 l1 a2 a3 a4 r w hr0 hc0 hr1 hc1 h
  cases k with
  | zero => exact absurd h (by simp [athanorref20_Least.f])
  | succ k =>
  simp only [athanorref20_Least.f] at h
  have HR0 := Aside0.mk hr0
  have HC0 := Aside0.mk hc0
  clear hr0 hc0
  have HR1 := Aside0.mk hr1
  have HC1 := Aside0.mk hc1
  clear hr1 hc1
  have H : (if a3 < (l1.length : Int) then (if 0 ≤ a3 then (if a3 < (l0.length : Int) then (athanorref20_Least.j0 k l0 l1 a2 a3 a4 (l1.length : Int) (rd l0 a3) 0) else (none)) else (none)) else (athanorref20_Least.j0 k l0 l1 a2 a3 a4 (l1.length : Int) 0 0)) = some r := h
  clear h
  have HC6 := Aside0.mk H
  clear H
  go_enter Try.func20, Try.ntmps20
  go_upto_if 24 with (fail)
  go_cut [12] (fun v12 wc => ∃ (kq : Nat) (x12_5 : Int), v12 = .int .i64 x12_5 ∧ Aside0 (athanorref20_Least.j0 kq l0 l1 a2 a3 a4 (l1.length : Int) x12_5 0 = some r) ∧ Aside0 (kq ≤ k) ∧ Drawn0 w wc)
  case first =>
    have H := HC6.out
    clear HC6
    by_cases c7 : a3 < (l1.length : Int)
    · rw [if_pos c7] at H
      have c7b0 : decide (a3 < (l1.length : Int)) = true := decide_eq_true c7
      clear c7
      (first | rw [c7b0] | (simp only [i64_w, i32_w]; rw [c7b0]) | skip)
      by_cases c8 : 0 ≤ a3
      · rw [if_pos c8] at H
        have c8b0 : decide (0 ≤ a3) = true := decide_eq_true c8
        clear c8
        by_cases c9 : a3 < (l0.length : Int)
        · rw [if_pos c9] at H
          have c9b0 : decide (a3 < (l0.length : Int)) = true := decide_eq_true c9
          clear c9
          have H' := Aside0.mk H
          clear H
          have p225 : 0 ≤ (a3 : Int) := of_decide_eq_true (by first | (with_reducible assumption) | assumption)
          have q225 : a3 < (l0.length : Int) := of_decide_eq_true (by first | (with_reducible assumption) | assumption)
          obtain ⟨ad225, e225, hx225_0⟩ := Kd.at_int HR0.out a3 p225 q225
          cases e225
          replace p225 := eq_true p225
          replace q225 := eq_true q225
          go_wp2
          go_meet
          case rel => exact ⟨_, (rd l0 a3), (by first | rfl | (simp; done) | (simp [*]; done)), H', ⟨by first | omega | exact Nat.le_refl _⟩, by repeat (first | exact Drawn0.refl _ | apply Drawn0.step)⟩
        · rw [if_neg c9] at H
          exact absurd H (by simp)
      · rw [if_neg c8] at H
        exact absurd H (by simp)
    · rw [if_neg c7] at H
      have c7b0 : decide (a3 < (l1.length : Int)) = false := decide_eq_false c7
      clear c7
      (first | rw [c7b0] | (simp only [i64_w, i32_w]; rw [c7b0]) | skip)
      have H' := Aside0.mk H
      clear H
      go_wp2
      go_meet
      case rel => exact ⟨_, (0), (by first | rfl | (simp; done) | (simp [*]; done)), H', ⟨by first | omega | exact Nat.le_refl _⟩, by repeat (first | exact Drawn0.refl _ | apply Drawn0.step)⟩
  case rest =>
    clear HC6
    try clear c1
    try clear c2
    try clear p2
    try clear q2
    try clear hx2
    try clear c7
    try clear c7b0
    try clear c8
    try clear c8b0
    try clear c9
    try clear c9b0
    try clear hx225_0
    try clear p225
    try clear q225
    obtain ⟨kq, x12_5, rfl, HA, HJ5, ⟨mc5, rfl⟩⟩ := hcut
    cases kq with
    | zero => exact absurd HA.out (by simp [athanorref20_Least.j0])
    | succ kj5 =>
      have H := HA.out
      clear HA
      simp only [athanorref20_Least.j0] at H
      have HC10 := Aside0.mk H
      clear H
      go_upto_if 30 with (fail)
      go_cut [13] (fun v13 wc => ∃ (kq : Nat) (x13_9 : Int), v13 = .int .i64 x13_9 ∧ Aside0 (athanorref20_Least.j1 kq l0 l1 a2 a3 a4 (l1.length : Int) x12_5 x13_9 = some r) ∧ Aside0 (kq ≤ kj5) ∧ Drawn0 w wc)
      case first =>
        have H := HC10.out
        clear HC10
        by_cases c11 : a2 > 0
        · rw [if_pos c11] at H
          have c11b0 : decide (0 < a2) = true := decide_eq_true c11
          clear c11
          (first | rw [c11b0] | (simp only [i64_w, i32_w]; rw [c11b0]) | skip)
          by_cases c12 : 0 ≤ a2
          · rw [if_pos c12] at H
            have c12b0 : decide (0 ≤ a2) = true := decide_eq_true c12
            clear c12
            by_cases c13 : a2 < (l0.length : Int)
            · rw [if_pos c13] at H
              have c13b0 : decide (a2 < (l0.length : Int)) = true := decide_eq_true c13
              clear c13
              have H' := Aside0.mk H
              clear H
              have p226 : 0 ≤ (a2 : Int) := of_decide_eq_true (by first | (with_reducible assumption) | assumption)
              have q226 : a2 < (l0.length : Int) := of_decide_eq_true (by first | (with_reducible assumption) | assumption)
              obtain ⟨ad226, e226, hx226_0⟩ := Kd.at_int HR0.out a2 p226 q226
              cases e226
              replace p226 := eq_true p226
              replace q226 := eq_true q226
              go_wp2
              go_meet
              case rel => exact ⟨_, (rd l0 a2), (by first | rfl | (simp; done) | (simp [*]; done)), H', ⟨by have := HJ5.out; first | omega | exact Nat.le_refl _⟩, by repeat (first | exact Drawn0.refl _ | apply Drawn0.step)⟩
            · rw [if_neg c13] at H
              exact absurd H (by simp)
          · rw [if_neg c12] at H
            exact absurd H (by simp)
        · rw [if_neg c11] at H
          have c11b0 : decide (0 < a2) = false := decide_eq_false c11
          clear c11
          (first | rw [c11b0] | (simp only [i64_w, i32_w]; rw [c11b0]) | skip)
          have H' := Aside0.mk H
          clear H
          go_wp2
          go_meet
          case rel => exact ⟨_, (0), (by first | rfl | (simp; done) | (simp [*]; done)), H', ⟨by have := HJ5.out; first | omega | exact Nat.le_refl _⟩, by repeat (first | exact Drawn0.refl _ | apply Drawn0.step)⟩
      case rest =>
        clear HC10
        try clear c1
        try clear c2
        try clear p2
        try clear q2
        try clear hx2
        try clear c5
        try clear c7
        try clear c7b0
        try clear c8
        try clear c8b0
        try clear c9
        try clear c9b0
        try clear c11
        try clear c11b0
        try clear c12
        try clear c12b0
        try clear c13
        try clear c13b0
        try clear hx225_0
        try clear hx226_0
        try clear p2
        try clear p225
        try clear p226
        try clear q2
        try clear q225
        try clear q226
        obtain ⟨kq, x13_9, rfl, HA, HJ9, ⟨mc9, rfl⟩⟩ := hcut
        cases kq with
        | zero => exact absurd HA.out (by simp [athanorref20_Least.j1])
        | succ kj9 =>
          have H := HA.out
          clear HA
          simp only [athanorref20_Least.j1] at H
          by_cases c14 : a3 = (wrap64 (a2 + 1))
          · rw [if_pos c14] at H
            have c14b0 : (a3 == (wrap64 (a2 + 1))) = true := beq_iff_eq.mpr c14
            have c14b1 : (a3 != (wrap64 (a2 + 1))) = false := bne_eq_false_iff_eq.mpr c14
            clear c14
            by_cases c15 : a3 = (l1.length : Int)
            · rw [if_pos c15] at H
              have c15b0 : (a3 == (l1.length : Int)) = true := beq_iff_eq.mpr c15
              have c15b1 : (a3 != (l1.length : Int)) = false := bne_eq_false_iff_eq.mpr c15
              clear c15
              by_cases c16 : 0 ≤ (l1.length : Int)
              · rw [if_pos c16] at H
                have c16b0 : decide (0 ≤ (l1.length : Int)) = true := decide_eq_true c16
                have c16b1 : decide (0 ≤ l1.length) = true := decide_eq_true (by omega)
                clear c16
                by_cases c17 : (l1.length : Int) < (l0.length : Int)
                · rw [if_pos c17] at H
                  have c17b0 : decide ((l1.length : Int) < (l0.length : Int)) = true := decide_eq_true c17
                  have c17b1 : decide (l1.length < l0.length) = true := decide_eq_true (Int.ofNat_lt.mp c17)
                  clear c17
                  by_cases c18 : (wrap64 ((rd l0 (l1.length : Int)) + x13_9)) > a4
                  · rw [if_pos c18] at H
                    have c18b0 : decide (a4 < (wrap64 ((rd l0 (l1.length : Int)) + x13_9))) = true := decide_eq_true c18
                    clear c18
                    obtain rfl := Option.some.inj H
                    have p227 : 0 ≤ ((l1.length : Int) : Int) := of_decide_eq_true (by first | (with_reducible assumption) | assumption)
                    have q227 : (l1.length : Int) < (l0.length : Int) := of_decide_eq_true (by first | (with_reducible assumption) | assumption)
                    obtain ⟨ad227, e227, hx227_0⟩ := Kd.at_int HR0.out (l1.length : Int) p227 q227
                    cases e227
                    (try simp only [Go.IntWalk.toNatUp] at hx227_0)
                    replace p227 := eq_true p227
                    replace q227 := eq_true q227
                    go_wp2
                    go_ret
                    exact ⟨by first | rfl | (simp; done) | (simp [*]; done), by repeat (first | exact Drawn0.refl _ | apply Drawn0.step)⟩
                  · rw [if_neg c18] at H
                    have c18b0 : decide (a4 < (wrap64 ((rd l0 (l1.length : Int)) + x13_9))) = false := decide_eq_false c18
                    clear c18
                    obtain ⟨ji19, hji19⟩ : ∃ j_ : Int, (wrap64 ((l1.length : Int) - 1)) = j_ := ⟨_, rfl⟩
                    replace H : (if 0 ≤ (ji19) then (if (ji19) < (l1.length : Int) then (some (rd l1 (ji19))) else (none)) else (none)) = some r := by first | (rw [hji19] at H; exact H) | (simp only [hji19] at H ⊢; exact H)
                    have hji19w : (IntKind.i64.wrap ((l1.length : Int) - 1)) = ji19 := (i64_w _).trans hji19
                    by_cases c20 : 0 ≤ (ji19)
                    · rw [if_pos c20] at H
                      have c20b0 : decide (0 ≤ (ji19)) = true := decide_eq_true c20
                      clear c20
                      by_cases c21 : (ji19) < (l1.length : Int)
                      · rw [if_pos c21] at H
                        have c21b0 : decide ((ji19) < (l1.length : Int)) = true := decide_eq_true c21
                        clear c21
                        obtain rfl := Option.some.inj H
                        have p227 : 0 ≤ ((l1.length : Int) : Int) := of_decide_eq_true (by first | (with_reducible assumption) | assumption)
                        have q227 : (l1.length : Int) < (l0.length : Int) := of_decide_eq_true (by first | (with_reducible assumption) | assumption)
                        obtain ⟨ad227, e227, hx227_0⟩ := Kd.at_int HR0.out (l1.length : Int) p227 q227
                        cases e227
                        (try simp only [Go.IntWalk.toNatUp] at hx227_0)
                        replace p227 := eq_true p227
                        replace q227 := eq_true q227
                        have p228 : 0 ≤ ((ji19) : Int) := of_decide_eq_true (by first | (with_reducible assumption) | assumption)
                        have q228 : (ji19) < (l1.length : Int) := of_decide_eq_true (by first | (with_reducible assumption) | assumption)
                        obtain ⟨ad228, e228, hx228_0⟩ := Kd.at_int HR1.out (ji19) p228 q228
                        cases e228
                        replace p228 := eq_true p228
                        replace q228 := eq_true q228
                        go_wp2
                        go_ret
                        exact ⟨by first | rfl | (simp; done) | (simp only [← hji19] <;> (first | rfl | simp)) | (simp [*]; done), by repeat (first | exact Drawn0.refl _ | apply Drawn0.step)⟩
                      · rw [if_neg c21] at H
                        exact absurd H (by simp)
                    · rw [if_neg c20] at H
                      exact absurd H (by simp)
                · rw [if_neg c17] at H
                  exact absurd H (by simp)
              · rw [if_neg c16] at H
                exact absurd H (by simp)
            · rw [if_neg c15] at H
              have c15b0 : (a3 == (l1.length : Int)) = false := beq_eq_false_iff_ne.mpr c15
              have c15b1 : (a3 != (l1.length : Int)) = true := bne_iff_ne.mpr c15
              by_cases c22 : (wrap64 (x12_5 + x13_9)) > a4
              · rw [if_pos c22] at H
                have c22b0 : decide (a4 < (wrap64 (x12_5 + x13_9))) = true := decide_eq_true c22
                clear c22
                obtain rfl := Option.some.inj H
                go_wp2
                go_ret
                exact ⟨by first | rfl | (simp; done) | (simp [*]; done), by repeat (first | exact Drawn0.refl _ | apply Drawn0.step)⟩
              · rw [if_neg c22] at H
                have c22b0 : decide (a4 < (wrap64 (x12_5 + x13_9))) = false := decide_eq_false c22
                clear c22
                obtain rfl := Option.some.inj H
                go_wp2
                go_ret
                exact ⟨by first | rfl | (simp; done) | (simp [*]; done), by repeat (first | exact Drawn0.refl _ | apply Drawn0.step)⟩
          · rw [if_neg c14] at H
            have c14b0 : (a3 == (wrap64 (a2 + 1))) = false := beq_eq_false_iff_ne.mpr c14
            have c14b1 : (a3 != (wrap64 (a2 + 1))) = true := bne_iff_ne.mpr c14
            have H' := Aside0.mk H
            clear H
            go_wp2
            go_loopg [14, 15, 16] kj9 (fun kq v14 v15 v16 w' => ∃ (x14_3 : Int) (x15_3 : Int) (x16_3 : Int), v14 = .int .i64 x14_3 ∧ v15 = .int .i64 x15_3 ∧ v16 = .int .i64 x16_3 ∧ Aside0 (athanorref20_Least.l0 kq l0 l1 a2 a3 a4 x12_5 x14_3 x15_3 x16_3 = some r) ∧ Aside0 (kq ≤ kj9) ∧ Drawn0 w w')
            case atStart => exact ⟨((-1)), (0), (wrap64 (a2 + 1)), (by first | rfl | (simp; done) | (simp [*]; done)), (by first | rfl | (simp; done) | (simp [*]; done)), (by first | rfl | (simp; done) | (simp [*]; done)), H', ⟨Nat.le_refl _⟩, by repeat (first | exact Drawn0.refl _ | apply Drawn0.step)⟩
            case round =>
              clear H'
              try clear c1
              try clear c2
              try clear p2
              try clear q2
              try clear hx2
              try clear c5
              try clear p6
              try clear c7
              try clear c7b0
              try clear c8
              try clear c8b0
              try clear c9
              try clear c9b0
              try clear c11
              try clear c11b0
              try clear c12
              try clear c12b0
              try clear c13
              try clear c13b0
              try clear c14
              try clear c14b0
              try clear c14b1
              try clear c15
              try clear c15b0
              try clear c15b1
              try clear c16
              try clear c16b0
              try clear c16b1
              try clear c17
              try clear c17b0
              try clear c17b1
              try clear c18
              try clear c18b0
              try clear c20
              try clear c20b0
              try clear c21
              try clear c21b0
              try clear c22
              try clear c22b0
              try clear p22
              try clear q22
              try clear hx22
              try clear hx225_0
              try clear hx226_0
              try clear hx227_0
              try clear hx228_0
              try clear p2
              try clear p225
              try clear p226
              try clear p227
              try clear p228
              try clear q2
              try clear q225
              try clear q226
              try clear q227
              try clear q228
              obtain ⟨x14_3, x15_3, x16_3, rfl, rfl, rfl, HA, HK3, ⟨m3, rfl⟩⟩ := hrel
              cases gk with
              | zero => exact absurd HA.out (by simp [athanorref20_Least.l0])
              | succ k3 =>
                have H := HA.out
                clear HA
                simp only [athanorref20_Least.l0] at H
                by_cases c23 : x16_3 < a3
                · rw [if_pos c23] at H
                  have c23b0 : decide (x16_3 < a3) = true := decide_eq_true c23
                  clear c23
                  by_cases c24 : 0 ≤ x16_3
                  · rw [if_pos c24] at H
                    have c24b0 : decide (0 ≤ x16_3) = true := decide_eq_true c24
                    clear c24
                    by_cases c25 : x16_3 < (l0.length : Int)
                    · rw [if_pos c25] at H
                      have c25b0 : decide (x16_3 < (l0.length : Int)) = true := decide_eq_true c25
                      clear c25
                      have HC26 := Aside0.mk H
                      clear H
                      have p229 : 0 ≤ (x16_3 : Int) := of_decide_eq_true (by first | (with_reducible assumption) | assumption)
                      have q229 : x16_3 < (l0.length : Int) := of_decide_eq_true (by first | (with_reducible assumption) | assumption)
                      obtain ⟨ad229, e229, hx229_0⟩ := Kd.at_int HR0.out x16_3 p229 q229
                      cases e229
                      replace p229 := eq_true p229
                      replace q229 := eq_true q229
                      go_upto_if 76 with (fail)
                      go_cut [17] (fun v17 wc => ∃ (kq : Nat) (x17_25 : Int), v17 = .int .i64 x17_25 ∧ Aside0 (athanorref20_Least.j3 kq l0 l1 a2 a3 a4 x12_5 x14_3 x15_3 x16_3 x17_25 = some r) ∧ Aside0 (kq ≤ k3) ∧ Drawn0 w wc)
                      case first =>
                        have H := HC26.out
                        clear HC26
                        by_cases c27 : (wrap64 (x16_3 - 1)) > a2
                        · rw [if_pos c27] at H
                          have c27b0 : decide (a2 < (wrap64 (x16_3 - 1))) = true := decide_eq_true c27
                          clear c27
                          (first | rw [c27b0] | (simp only [i64_w, i32_w]; rw [c27b0]) | skip)
                          obtain ⟨ji28, hji28⟩ : ∃ j_ : Int, (wrap64 (x16_3 - 1)) = j_ := ⟨_, rfl⟩
                          replace H : (if 0 ≤ (ji28) then (if (ji28) < (l0.length : Int) then (athanorref20_Least.j3 k3 l0 l1 a2 a3 a4 x12_5 x14_3 x15_3 x16_3 (wrap64 ((wrap64 ((rd l0 x16_3) + x12_5)) + (rd l0 (ji28))))) else (none)) else (none)) = some r := by first | (rw [hji28] at H; exact H) | (simp only [hji28] at H ⊢; exact H)
                          (try rw [hji28] at c27b0)
                          have hji28w : (IntKind.i64.wrap (x16_3 - 1)) = ji28 := (i64_w _).trans hji28
                          by_cases c29 : 0 ≤ (ji28)
                          · rw [if_pos c29] at H
                            have c29b0 : decide (0 ≤ (ji28)) = true := decide_eq_true c29
                            clear c29
                            by_cases c30 : (ji28) < (l0.length : Int)
                            · rw [if_pos c30] at H
                              have c30b0 : decide ((ji28) < (l0.length : Int)) = true := decide_eq_true c30
                              clear c30
                              have H' := Aside0.mk H
                              clear H
                              have p230 : 0 ≤ ((ji28) : Int) := of_decide_eq_true (by first | (with_reducible assumption) | assumption)
                              have q230 : (ji28) < (l0.length : Int) := of_decide_eq_true (by first | (with_reducible assumption) | assumption)
                              obtain ⟨ad230, e230, hx230_0⟩ := Kd.at_int HR0.out (ji28) p230 q230
                              obtain rfl : ad229 = ad230 := (by injection e230)
                              replace p230 := eq_true p230
                              replace q230 := eq_true q230
                              go_wp2
                              go_meet
                              case rel => exact ⟨_, (wrap64 ((wrap64 ((rd l0 x16_3) + x12_5)) + (rd l0 (ji28)))), (by first | rfl | (simp; done) | (simp only [← hji28] <;> (first | rfl | simp)) | (simp [*]; done)), H', ⟨by have := HJ5.out; have := HJ9.out; have := HK3.out; first | omega | exact Nat.le_refl _⟩, by repeat (first | exact Drawn0.refl _ | apply Drawn0.step)⟩
                            · rw [if_neg c30] at H
                              exact absurd H (by simp)
                          · rw [if_neg c29] at H
                            exact absurd H (by simp)
                        · rw [if_neg c27] at H
                          have c27b0 : decide (a2 < (wrap64 (x16_3 - 1))) = false := decide_eq_false c27
                          clear c27
                          (first | rw [c27b0] | (simp only [i64_w, i32_w]; rw [c27b0]) | skip)
                          have H' := Aside0.mk H
                          clear H
                          go_wp2
                          go_meet
                          case rel => exact ⟨_, (wrap64 ((rd l0 x16_3) + x12_5)), (by first | rfl | (simp; done) | (simp [*]; done)), H', ⟨by have := HJ5.out; have := HJ9.out; have := HK3.out; first | omega | exact Nat.le_refl _⟩, by repeat (first | exact Drawn0.refl _ | apply Drawn0.step)⟩
                      case rest =>
                        clear HC26
                        try clear c1
                        try clear c2
                        try clear p2
                        try clear q2
                        try clear hx2
                        try clear c3
                        try clear c5
                        try clear p6
                        try clear c7
                        try clear c7b0
                        try clear c8
                        try clear c8b0
                        try clear c9
                        try clear c9b0
                        try clear c11
                        try clear c11b0
                        try clear c12
                        try clear c12b0
                        try clear c13
                        try clear c13b0
                        try clear c14
                        try clear c14b0
                        try clear c14b1
                        try clear c15
                        try clear c15b0
                        try clear c15b1
                        try clear c16
                        try clear c16b0
                        try clear c16b1
                        try clear c17
                        try clear c17b0
                        try clear c17b1
                        try clear c18
                        try clear c18b0
                        try clear c20
                        try clear c20b0
                        try clear c21
                        try clear c21b0
                        try clear c22
                        try clear c22b0
                        try clear p22
                        try clear q22
                        try clear hx22
                        try clear c23
                        try clear c23b0
                        try clear p23
                        try clear q23
                        try clear hx23
                        try clear c24
                        try clear c24b0
                        try clear c25
                        try clear c25b0
                        try clear c27
                        try clear c27b0
                        try clear c29
                        try clear c29b0
                        try clear c30
                        try clear c30b0
                        try clear hx225_0
                        try clear hx226_0
                        try clear hx227_0
                        try clear hx228_0
                        try clear hx229_0
                        try clear hx230_0
                        try clear p2
                        try clear p22
                        try clear p225
                        try clear p226
                        try clear p227
                        try clear p228
                        try clear p229
                        try clear p230
                        try clear p6
                        try clear q2
                        try clear q22
                        try clear q225
                        try clear q226
                        try clear q227
                        try clear q228
                        try clear q229
                        try clear q230
                        obtain ⟨kq, x17_25, rfl, HA, HJ25, ⟨mc25, rfl⟩⟩ := hcut
                        cases kq with
                        | zero => exact absurd HA.out (by simp [athanorref20_Least.j3])
                        | succ kj25 =>
                          have H := HA.out
                          clear HA
                          simp only [athanorref20_Least.j3] at H
                          by_cases c31 : x17_25 > a4
                          · rw [if_pos c31] at H
                            have c31b0 : decide (a4 < x17_25) = true := decide_eq_true c31
                            clear c31
                            obtain rfl := Option.some.inj H
                            go_wp2
                            go_ret
                            exact ⟨by first | rfl | (simp; done) | (simp [*]; done), by repeat (first | exact Drawn0.refl _ | apply Drawn0.step)⟩
                          · rw [if_neg c31] at H
                            have c31b0 : decide (a4 < x17_25) = false := decide_eq_false c31
                            clear c31
                            obtain ⟨ji32, hji32⟩ : ∃ j_ : Int, (wrap64 (x16_3 - 1)) = j_ := ⟨_, rfl⟩
                            replace H : (if 0 ≤ (ji32) then (if (ji32) < (l1.length : Int) then (if 0 ≤ x16_3 then (if x16_3 < (l0.length : Int) then ((athanorref20_Least.f kj25 l0 l1 x16_3 a3 (wrap64 (a4 - (rd l0 x16_3)))).bind fun t233 => (if t233 < 0 then (athanorref20_Least.l0 kj25 l0 l1 a2 a3 a4 x12_5 x14_3 (wrap64 (x15_3 + (rd l1 (ji32)))) (wrap64 (x16_3 + 1))) else ((athanorref20_Least.f kj25 l0 l1 a2 x16_3 a4).bind fun t234 => (if t234 < 0 then (athanorref20_Least.l0 kj25 l0 l1 a2 a3 a4 x12_5 x14_3 (wrap64 (x15_3 + (rd l1 (ji32)))) (wrap64 (x16_3 + 1))) else (if x14_3 < 0 then (athanorref20_Least.l0 kj25 l0 l1 a2 a3 a4 x12_5 (wrap64 ((wrap64 ((wrap64 (x15_3 + (rd l1 (ji32)))) + t233)) + t234)) (wrap64 (x15_3 + (rd l1 (ji32)))) (wrap64 (x16_3 + 1))) else (if (wrap64 ((wrap64 ((wrap64 (x15_3 + (rd l1 (ji32)))) + t233)) + t234)) < x14_3 then (athanorref20_Least.l0 kj25 l0 l1 a2 a3 a4 x12_5 (wrap64 ((wrap64 ((wrap64 (x15_3 + (rd l1 (ji32)))) + t233)) + t234)) (wrap64 (x15_3 + (rd l1 (ji32)))) (wrap64 (x16_3 + 1))) else (athanorref20_Least.l0 kj25 l0 l1 a2 a3 a4 x12_5 x14_3 (wrap64 (x15_3 + (rd l1 (ji32)))) (wrap64 (x16_3 + 1))))))))) else (none)) else (none)) else (none)) else (none)) = some r := by first | (rw [hji32] at H; exact H) | (simp only [hji32] at H ⊢; exact H)
                            have hji32w : (IntKind.i64.wrap (x16_3 - 1)) = ji32 := (i64_w _).trans hji32
                            by_cases c33 : 0 ≤ (ji32)
                            · rw [if_pos c33] at H
                              have c33b0 : decide (0 ≤ (ji32)) = true := decide_eq_true c33
                              clear c33
                              by_cases c34 : (ji32) < (l1.length : Int)
                              · rw [if_pos c34] at H
                                have c34b0 : decide ((ji32) < (l1.length : Int)) = true := decide_eq_true c34
                                clear c34
                                by_cases c35 : 0 ≤ x16_3
                                · rw [if_pos c35] at H
                                  have c35b0 : decide (0 ≤ x16_3) = true := decide_eq_true c35
                                  clear c35
                                  by_cases c36 : x16_3 < (l0.length : Int)
                                  · rw [if_pos c36] at H
                                    have c36b0 : decide (x16_3 < (l0.length : Int)) = true := decide_eq_true c36
                                    clear c36
                                    replace H := Option.bind_eq_some_iff.mp H
                                    obtain ⟨t233, A370, H⟩ := H
                                    replace H : (if t233 < 0 then (athanorref20_Least.l0 kj25 l0 l1 a2 a3 a4 x12_5 x14_3 (wrap64 (x15_3 + (rd l1 (ji32)))) (wrap64 (x16_3 + 1))) else ((athanorref20_Least.f kj25 l0 l1 a2 x16_3 a4).bind fun t234 => (if t234 < 0 then (athanorref20_Least.l0 kj25 l0 l1 a2 a3 a4 x12_5 x14_3 (wrap64 (x15_3 + (rd l1 (ji32)))) (wrap64 (x16_3 + 1))) else (if x14_3 < 0 then (athanorref20_Least.l0 kj25 l0 l1 a2 a3 a4 x12_5 (wrap64 ((wrap64 ((wrap64 (x15_3 + (rd l1 (ji32)))) + t233)) + t234)) (wrap64 (x15_3 + (rd l1 (ji32)))) (wrap64 (x16_3 + 1))) else (if (wrap64 ((wrap64 ((wrap64 (x15_3 + (rd l1 (ji32)))) + t233)) + t234)) < x14_3 then (athanorref20_Least.l0 kj25 l0 l1 a2 a3 a4 x12_5 (wrap64 ((wrap64 ((wrap64 (x15_3 + (rd l1 (ji32)))) + t233)) + t234)) (wrap64 (x15_3 + (rd l1 (ji32)))) (wrap64 (x16_3 + 1))) else (athanorref20_Least.l0 kj25 l0 l1 a2 a3 a4 x12_5 x14_3 (wrap64 (x15_3 + (rd l1 (ji32)))) (wrap64 (x16_3 + 1)))))))) = some r := H
                                    have A37 := Aside0.mk A370
                                    clear A370
                                    by_cases c38 : t233 < 0
                                    · rw [if_pos c38] at H
                                      have c38b0 : decide (t233 < 0) = true := decide_eq_true c38
                                      clear c38
                                      have H' := Aside0.mk H
                                      clear H
                                      have p231 : 0 ≤ ((ji32) : Int) := of_decide_eq_true (by first | (with_reducible assumption) | assumption)
                                      have q231 : (ji32) < (l1.length : Int) := of_decide_eq_true (by first | (with_reducible assumption) | assumption)
                                      obtain ⟨ad231, e231, hx231_0⟩ := Kd.at_int HR1.out (ji32) p231 q231
                                      cases e231
                                      replace p231 := eq_true p231
                                      replace q231 := eq_true q231
                                      have p232 : 0 ≤ (x16_3 : Int) := of_decide_eq_true (by first | (with_reducible assumption) | assumption)
                                      have q232 : x16_3 < (l0.length : Int) := of_decide_eq_true (by first | (with_reducible assumption) | assumption)
                                      obtain ⟨ad232, e232, hx232_0⟩ := Kd.at_int HR0.out x16_3 p232 q232
                                      obtain rfl : ad229 = ad232 := (by injection e232)
                                      replace p232 := eq_true p232
                                      replace q232 := eq_true q232
                                      go_wp2_with (first | ((with_reducible refine gate_callee (f := 20) rfl ?_); refine goesL_ (some 104) rfl rfl Try.func20 (by kernel_rfl) rfl #[.slice (some ad229) l0.length c0, .slice (some ad231) l1.length c1, .int .i64 x16_3, .int .i64 a3, .int .i64 (wrap64 (a4 - (rd l0 x16_3)))] rfl (by (try simp only [List.map_toArray, List.map_cons, List.map_nil]); first | done | rfl | (simp only [List.length_drop, List.length_take]; rfl)) ?_; (with_reducible refine (ih kj25 (by have := HJ5.out; have := HJ9.out; have := HK3.out; have := HJ25.out; omega) _ _ l0 _ _ l1 x16_3 a3 (wrap64 (a4 - (rd l0 x16_3))) t233 _ ?side1 ?side2 ?side3 ?side4 A37.out).mono ?_); (case side1 => repeat (first | exact HR0.out | (with_reducible refine Kd.C_alloc ?_ _) | (with_reducible refine Kd.C_drewN ?_ _) | (with_reducible refine Kd.C_drew ?_))); (case side2 => exact HC0.out); (case side3 => repeat (first | exact HR1.out | (with_reducible refine Kd.C_alloc ?_ _) | (with_reducible refine Kd.C_drewN ?_ _) | (with_reducible refine Kd.C_drew ?_))); (case side4 => exact HC1.out); rintro e w' ⟨rfl, ⟨nd, rfl⟩⟩; refine ⟨_, rfl, ?_⟩))
                                      go_roundg kj25
                                      case measure => have := HJ5.out; have := HJ9.out; have := HK3.out; have := HJ25.out; omega
                                      case rel => exact ⟨(x14_3), (wrap64 (x15_3 + (rd l1 (ji32)))), (wrap64 (x16_3 + 1)), (by first | rfl | (simp; done) | (simp [*]; done)), (by first | rfl | (simp; done) | (simp only [← hji32] <;> (first | rfl | simp)) | (simp [*]; done)), (by first | rfl | (simp; done) | (simp [*]; done)), H', ⟨by have := HJ5.out; have := HJ9.out; have := HK3.out; have := HJ25.out; omega⟩, by repeat (first | exact Drawn0.refl _ | apply Drawn0.step)⟩
                                    · rw [if_neg c38] at H
                                      have c38b0 : decide (t233 < 0) = false := decide_eq_false c38
                                      clear c38
                                      replace H := Option.bind_eq_some_iff.mp H
                                      obtain ⟨t234, A390, H⟩ := H
                                      replace H : (if t234 < 0 then (athanorref20_Least.l0 kj25 l0 l1 a2 a3 a4 x12_5 x14_3 (wrap64 (x15_3 + (rd l1 (ji32)))) (wrap64 (x16_3 + 1))) else (if x14_3 < 0 then (athanorref20_Least.l0 kj25 l0 l1 a2 a3 a4 x12_5 (wrap64 ((wrap64 ((wrap64 (x15_3 + (rd l1 (ji32)))) + t233)) + t234)) (wrap64 (x15_3 + (rd l1 (ji32)))) (wrap64 (x16_3 + 1))) else (if (wrap64 ((wrap64 ((wrap64 (x15_3 + (rd l1 (ji32)))) + t233)) + t234)) < x14_3 then (athanorref20_Least.l0 kj25 l0 l1 a2 a3 a4 x12_5 (wrap64 ((wrap64 ((wrap64 (x15_3 + (rd l1 (ji32)))) + t233)) + t234)) (wrap64 (x15_3 + (rd l1 (ji32)))) (wrap64 (x16_3 + 1))) else (athanorref20_Least.l0 kj25 l0 l1 a2 a3 a4 x12_5 x14_3 (wrap64 (x15_3 + (rd l1 (ji32)))) (wrap64 (x16_3 + 1)))))) = some r := H
                                      have A39 := Aside0.mk A390
                                      clear A390
                                      by_cases c40 : t234 < 0
                                      · rw [if_pos c40] at H
                                        have c40b0 : decide (t234 < 0) = true := decide_eq_true c40
                                        clear c40
                                        have H' := Aside0.mk H
                                        clear H
                                        have p231 : 0 ≤ ((ji32) : Int) := of_decide_eq_true (by first | (with_reducible assumption) | assumption)
                                        have q231 : (ji32) < (l1.length : Int) := of_decide_eq_true (by first | (with_reducible assumption) | assumption)
                                        obtain ⟨ad231, e231, hx231_0⟩ := Kd.at_int HR1.out (ji32) p231 q231
                                        cases e231
                                        replace p231 := eq_true p231
                                        replace q231 := eq_true q231
                                        have p232 : 0 ≤ (x16_3 : Int) := of_decide_eq_true (by first | (with_reducible assumption) | assumption)
                                        have q232 : x16_3 < (l0.length : Int) := of_decide_eq_true (by first | (with_reducible assumption) | assumption)
                                        obtain ⟨ad232, e232, hx232_0⟩ := Kd.at_int HR0.out x16_3 p232 q232
                                        obtain rfl : ad229 = ad232 := (by injection e232)
                                        replace p232 := eq_true p232
                                        replace q232 := eq_true q232
                                        go_wp2_with (first | ((with_reducible refine gate_callee (f := 20) rfl ?_); refine goesL_ (some 104) rfl rfl Try.func20 (by kernel_rfl) rfl #[.slice (some ad229) l0.length c0, .slice (some ad231) l1.length c1, .int .i64 x16_3, .int .i64 a3, .int .i64 (wrap64 (a4 - (rd l0 x16_3)))] rfl (by (try simp only [List.map_toArray, List.map_cons, List.map_nil]); first | done | rfl | (simp only [List.length_drop, List.length_take]; rfl)) ?_; (with_reducible refine (ih kj25 (by have := HJ5.out; have := HJ9.out; have := HK3.out; have := HJ25.out; omega) _ _ l0 _ _ l1 x16_3 a3 (wrap64 (a4 - (rd l0 x16_3))) t233 _ ?side1 ?side2 ?side3 ?side4 A37.out).mono ?_); (case side1 => repeat (first | exact HR0.out | (with_reducible refine Kd.C_alloc ?_ _) | (with_reducible refine Kd.C_drewN ?_ _) | (with_reducible refine Kd.C_drew ?_))); (case side2 => exact HC0.out); (case side3 => repeat (first | exact HR1.out | (with_reducible refine Kd.C_alloc ?_ _) | (with_reducible refine Kd.C_drewN ?_ _) | (with_reducible refine Kd.C_drew ?_))); (case side4 => exact HC1.out); rintro e w' ⟨rfl, ⟨nd, rfl⟩⟩; refine ⟨_, rfl, ?_⟩) | ((with_reducible refine gate_callee (f := 20) rfl ?_); refine goesL_ (some 112) rfl rfl Try.func20 (by kernel_rfl) rfl #[.slice (some ad229) l0.length c0, .slice (some ad231) l1.length c1, .int .i64 a2, .int .i64 x16_3, .int .i64 a4] rfl (by (try simp only [List.map_toArray, List.map_cons, List.map_nil]); first | done | rfl | (simp only [List.length_drop, List.length_take]; rfl)) ?_; (with_reducible refine (ih kj25 (by have := HJ5.out; have := HJ9.out; have := HK3.out; have := HJ25.out; omega) _ _ l0 _ _ l1 a2 x16_3 a4 t234 _ ?side1 ?side2 ?side3 ?side4 A39.out).mono ?_); (case side1 => repeat (first | exact HR0.out | (with_reducible refine Kd.C_alloc ?_ _) | (with_reducible refine Kd.C_drewN ?_ _) | (with_reducible refine Kd.C_drew ?_))); (case side2 => exact HC0.out); (case side3 => repeat (first | exact HR1.out | (with_reducible refine Kd.C_alloc ?_ _) | (with_reducible refine Kd.C_drewN ?_ _) | (with_reducible refine Kd.C_drew ?_))); (case side4 => exact HC1.out); rintro e w' ⟨rfl, ⟨nd, rfl⟩⟩; refine ⟨_, rfl, ?_⟩))
                                        go_roundg kj25
                                        case measure => have := HJ5.out; have := HJ9.out; have := HK3.out; have := HJ25.out; omega
                                        case rel => exact ⟨(x14_3), (wrap64 (x15_3 + (rd l1 (ji32)))), (wrap64 (x16_3 + 1)), (by first | rfl | (simp; done) | (simp [*]; done)), (by first | rfl | (simp; done) | (simp only [← hji32] <;> (first | rfl | simp)) | (simp [*]; done)), (by first | rfl | (simp; done) | (simp [*]; done)), H', ⟨by have := HJ5.out; have := HJ9.out; have := HK3.out; have := HJ25.out; omega⟩, by repeat (first | exact Drawn0.refl _ | apply Drawn0.step)⟩
                                      · rw [if_neg c40] at H
                                        have c40b0 : decide (t234 < 0) = false := decide_eq_false c40
                                        clear c40
                                        by_cases c41 : x14_3 < 0
                                        · rw [if_pos c41] at H
                                          have c41b0 : decide (x14_3 < 0) = true := decide_eq_true c41
                                          clear c41
                                          have H' := Aside0.mk H
                                          clear H
                                          have p231 : 0 ≤ ((ji32) : Int) := of_decide_eq_true (by first | (with_reducible assumption) | assumption)
                                          have q231 : (ji32) < (l1.length : Int) := of_decide_eq_true (by first | (with_reducible assumption) | assumption)
                                          obtain ⟨ad231, e231, hx231_0⟩ := Kd.at_int HR1.out (ji32) p231 q231
                                          cases e231
                                          replace p231 := eq_true p231
                                          replace q231 := eq_true q231
                                          have p232 : 0 ≤ (x16_3 : Int) := of_decide_eq_true (by first | (with_reducible assumption) | assumption)
                                          have q232 : x16_3 < (l0.length : Int) := of_decide_eq_true (by first | (with_reducible assumption) | assumption)
                                          obtain ⟨ad232, e232, hx232_0⟩ := Kd.at_int HR0.out x16_3 p232 q232
                                          obtain rfl : ad229 = ad232 := (by injection e232)
                                          replace p232 := eq_true p232
                                          replace q232 := eq_true q232
                                          go_wp2_with (first | ((with_reducible refine gate_callee (f := 20) rfl ?_); refine goesL_ (some 104) rfl rfl Try.func20 (by kernel_rfl) rfl #[.slice (some ad229) l0.length c0, .slice (some ad231) l1.length c1, .int .i64 x16_3, .int .i64 a3, .int .i64 (wrap64 (a4 - (rd l0 x16_3)))] rfl (by (try simp only [List.map_toArray, List.map_cons, List.map_nil]); first | done | rfl | (simp only [List.length_drop, List.length_take]; rfl)) ?_; (with_reducible refine (ih kj25 (by have := HJ5.out; have := HJ9.out; have := HK3.out; have := HJ25.out; omega) _ _ l0 _ _ l1 x16_3 a3 (wrap64 (a4 - (rd l0 x16_3))) t233 _ ?side1 ?side2 ?side3 ?side4 A37.out).mono ?_); (case side1 => repeat (first | exact HR0.out | (with_reducible refine Kd.C_alloc ?_ _) | (with_reducible refine Kd.C_drewN ?_ _) | (with_reducible refine Kd.C_drew ?_))); (case side2 => exact HC0.out); (case side3 => repeat (first | exact HR1.out | (with_reducible refine Kd.C_alloc ?_ _) | (with_reducible refine Kd.C_drewN ?_ _) | (with_reducible refine Kd.C_drew ?_))); (case side4 => exact HC1.out); rintro e w' ⟨rfl, ⟨nd, rfl⟩⟩; refine ⟨_, rfl, ?_⟩) | ((with_reducible refine gate_callee (f := 20) rfl ?_); refine goesL_ (some 112) rfl rfl Try.func20 (by kernel_rfl) rfl #[.slice (some ad229) l0.length c0, .slice (some ad231) l1.length c1, .int .i64 a2, .int .i64 x16_3, .int .i64 a4] rfl (by (try simp only [List.map_toArray, List.map_cons, List.map_nil]); first | done | rfl | (simp only [List.length_drop, List.length_take]; rfl)) ?_; (with_reducible refine (ih kj25 (by have := HJ5.out; have := HJ9.out; have := HK3.out; have := HJ25.out; omega) _ _ l0 _ _ l1 a2 x16_3 a4 t234 _ ?side1 ?side2 ?side3 ?side4 A39.out).mono ?_); (case side1 => repeat (first | exact HR0.out | (with_reducible refine Kd.C_alloc ?_ _) | (with_reducible refine Kd.C_drewN ?_ _) | (with_reducible refine Kd.C_drew ?_))); (case side2 => exact HC0.out); (case side3 => repeat (first | exact HR1.out | (with_reducible refine Kd.C_alloc ?_ _) | (with_reducible refine Kd.C_drewN ?_ _) | (with_reducible refine Kd.C_drew ?_))); (case side4 => exact HC1.out); rintro e w' ⟨rfl, ⟨nd, rfl⟩⟩; refine ⟨_, rfl, ?_⟩))
                                          go_roundg kj25
                                          case measure => have := HJ5.out; have := HJ9.out; have := HK3.out; have := HJ25.out; omega
                                          case rel => exact ⟨(wrap64 ((wrap64 ((wrap64 (x15_3 + (rd l1 (ji32)))) + t233)) + t234)), (wrap64 (x15_3 + (rd l1 (ji32)))), (wrap64 (x16_3 + 1)), (by first | rfl | (simp; done) | (simp only [← hji32] <;> (first | rfl | simp)) | (simp [*]; done)), (by first | rfl | (simp; done) | (simp only [← hji32] <;> (first | rfl | simp)) | (simp [*]; done)), (by first | rfl | (simp; done) | (simp [*]; done)), H', ⟨by have := HJ5.out; have := HJ9.out; have := HK3.out; have := HJ25.out; omega⟩, by repeat (first | exact Drawn0.refl _ | apply Drawn0.step)⟩
                                        · rw [if_neg c41] at H
                                          have c41b0 : decide (x14_3 < 0) = false := decide_eq_false c41
                                          clear c41
                                          by_cases c42 : (wrap64 ((wrap64 ((wrap64 (x15_3 + (rd l1 (ji32)))) + t233)) + t234)) < x14_3
                                          · rw [if_pos c42] at H
                                            have c42b0 : decide ((wrap64 ((wrap64 ((wrap64 (x15_3 + (rd l1 (ji32)))) + t233)) + t234)) < x14_3) = true := decide_eq_true c42
                                            clear c42
                                            have H' := Aside0.mk H
                                            clear H
                                            have p231 : 0 ≤ ((ji32) : Int) := of_decide_eq_true (by first | (with_reducible assumption) | assumption)
                                            have q231 : (ji32) < (l1.length : Int) := of_decide_eq_true (by first | (with_reducible assumption) | assumption)
                                            obtain ⟨ad231, e231, hx231_0⟩ := Kd.at_int HR1.out (ji32) p231 q231
                                            cases e231
                                            replace p231 := eq_true p231
                                            replace q231 := eq_true q231
                                            have p232 : 0 ≤ (x16_3 : Int) := of_decide_eq_true (by first | (with_reducible assumption) | assumption)
                                            have q232 : x16_3 < (l0.length : Int) := of_decide_eq_true (by first | (with_reducible assumption) | assumption)
                                            obtain ⟨ad232, e232, hx232_0⟩ := Kd.at_int HR0.out x16_3 p232 q232
                                            obtain rfl : ad229 = ad232 := (by injection e232)
                                            replace p232 := eq_true p232
                                            replace q232 := eq_true q232
                                            go_wp2_with (first | ((with_reducible refine gate_callee (f := 20) rfl ?_); refine goesL_ (some 104) rfl rfl Try.func20 (by kernel_rfl) rfl #[.slice (some ad229) l0.length c0, .slice (some ad231) l1.length c1, .int .i64 x16_3, .int .i64 a3, .int .i64 (wrap64 (a4 - (rd l0 x16_3)))] rfl (by (try simp only [List.map_toArray, List.map_cons, List.map_nil]); first | done | rfl | (simp only [List.length_drop, List.length_take]; rfl)) ?_; (with_reducible refine (ih kj25 (by have := HJ5.out; have := HJ9.out; have := HK3.out; have := HJ25.out; omega) _ _ l0 _ _ l1 x16_3 a3 (wrap64 (a4 - (rd l0 x16_3))) t233 _ ?side1 ?side2 ?side3 ?side4 A37.out).mono ?_); (case side1 => repeat (first | exact HR0.out | (with_reducible refine Kd.C_alloc ?_ _) | (with_reducible refine Kd.C_drewN ?_ _) | (with_reducible refine Kd.C_drew ?_))); (case side2 => exact HC0.out); (case side3 => repeat (first | exact HR1.out | (with_reducible refine Kd.C_alloc ?_ _) | (with_reducible refine Kd.C_drewN ?_ _) | (with_reducible refine Kd.C_drew ?_))); (case side4 => exact HC1.out); rintro e w' ⟨rfl, ⟨nd, rfl⟩⟩; refine ⟨_, rfl, ?_⟩) | ((with_reducible refine gate_callee (f := 20) rfl ?_); refine goesL_ (some 112) rfl rfl Try.func20 (by kernel_rfl) rfl #[.slice (some ad229) l0.length c0, .slice (some ad231) l1.length c1, .int .i64 a2, .int .i64 x16_3, .int .i64 a4] rfl (by (try simp only [List.map_toArray, List.map_cons, List.map_nil]); first | done | rfl | (simp only [List.length_drop, List.length_take]; rfl)) ?_; (with_reducible refine (ih kj25 (by have := HJ5.out; have := HJ9.out; have := HK3.out; have := HJ25.out; omega) _ _ l0 _ _ l1 a2 x16_3 a4 t234 _ ?side1 ?side2 ?side3 ?side4 A39.out).mono ?_); (case side1 => repeat (first | exact HR0.out | (with_reducible refine Kd.C_alloc ?_ _) | (with_reducible refine Kd.C_drewN ?_ _) | (with_reducible refine Kd.C_drew ?_))); (case side2 => exact HC0.out); (case side3 => repeat (first | exact HR1.out | (with_reducible refine Kd.C_alloc ?_ _) | (with_reducible refine Kd.C_drewN ?_ _) | (with_reducible refine Kd.C_drew ?_))); (case side4 => exact HC1.out); rintro e w' ⟨rfl, ⟨nd, rfl⟩⟩; refine ⟨_, rfl, ?_⟩))
                                            go_roundg kj25
                                            case measure => have := HJ5.out; have := HJ9.out; have := HK3.out; have := HJ25.out; omega
                                            case rel => exact ⟨(wrap64 ((wrap64 ((wrap64 (x15_3 + (rd l1 (ji32)))) + t233)) + t234)), (wrap64 (x15_3 + (rd l1 (ji32)))), (wrap64 (x16_3 + 1)), (by first | rfl | (simp; done) | (simp only [← hji32] <;> (first | rfl | simp)) | (simp [*]; done)), (by first | rfl | (simp; done) | (simp only [← hji32] <;> (first | rfl | simp)) | (simp [*]; done)), (by first | rfl | (simp; done) | (simp [*]; done)), H', ⟨by have := HJ5.out; have := HJ9.out; have := HK3.out; have := HJ25.out; omega⟩, by repeat (first | exact Drawn0.refl _ | apply Drawn0.step)⟩
                                          · rw [if_neg c42] at H
                                            have c42b0 : decide ((wrap64 ((wrap64 ((wrap64 (x15_3 + (rd l1 (ji32)))) + t233)) + t234)) < x14_3) = false := decide_eq_false c42
                                            clear c42
                                            have H' := Aside0.mk H
                                            clear H
                                            have p231 : 0 ≤ ((ji32) : Int) := of_decide_eq_true (by first | (with_reducible assumption) | assumption)
                                            have q231 : (ji32) < (l1.length : Int) := of_decide_eq_true (by first | (with_reducible assumption) | assumption)
                                            obtain ⟨ad231, e231, hx231_0⟩ := Kd.at_int HR1.out (ji32) p231 q231
                                            cases e231
                                            replace p231 := eq_true p231
                                            replace q231 := eq_true q231
                                            have p232 : 0 ≤ (x16_3 : Int) := of_decide_eq_true (by first | (with_reducible assumption) | assumption)
                                            have q232 : x16_3 < (l0.length : Int) := of_decide_eq_true (by first | (with_reducible assumption) | assumption)
                                            obtain ⟨ad232, e232, hx232_0⟩ := Kd.at_int HR0.out x16_3 p232 q232
                                            obtain rfl : ad229 = ad232 := (by injection e232)
                                            replace p232 := eq_true p232
                                            replace q232 := eq_true q232
                                            go_wp2_with (first | ((with_reducible refine gate_callee (f := 20) rfl ?_); refine goesL_ (some 104) rfl rfl Try.func20 (by kernel_rfl) rfl #[.slice (some ad229) l0.length c0, .slice (some ad231) l1.length c1, .int .i64 x16_3, .int .i64 a3, .int .i64 (wrap64 (a4 - (rd l0 x16_3)))] rfl (by (try simp only [List.map_toArray, List.map_cons, List.map_nil]); first | done | rfl | (simp only [List.length_drop, List.length_take]; rfl)) ?_; (with_reducible refine (ih kj25 (by have := HJ5.out; have := HJ9.out; have := HK3.out; have := HJ25.out; omega) _ _ l0 _ _ l1 x16_3 a3 (wrap64 (a4 - (rd l0 x16_3))) t233 _ ?side1 ?side2 ?side3 ?side4 A37.out).mono ?_); (case side1 => repeat (first | exact HR0.out | (with_reducible refine Kd.C_alloc ?_ _) | (with_reducible refine Kd.C_drewN ?_ _) | (with_reducible refine Kd.C_drew ?_))); (case side2 => exact HC0.out); (case side3 => repeat (first | exact HR1.out | (with_reducible refine Kd.C_alloc ?_ _) | (with_reducible refine Kd.C_drewN ?_ _) | (with_reducible refine Kd.C_drew ?_))); (case side4 => exact HC1.out); rintro e w' ⟨rfl, ⟨nd, rfl⟩⟩; refine ⟨_, rfl, ?_⟩) | ((with_reducible refine gate_callee (f := 20) rfl ?_); refine goesL_ (some 112) rfl rfl Try.func20 (by kernel_rfl) rfl #[.slice (some ad229) l0.length c0, .slice (some ad231) l1.length c1, .int .i64 a2, .int .i64 x16_3, .int .i64 a4] rfl (by (try simp only [List.map_toArray, List.map_cons, List.map_nil]); first | done | rfl | (simp only [List.length_drop, List.length_take]; rfl)) ?_; (with_reducible refine (ih kj25 (by have := HJ5.out; have := HJ9.out; have := HK3.out; have := HJ25.out; omega) _ _ l0 _ _ l1 a2 x16_3 a4 t234 _ ?side1 ?side2 ?side3 ?side4 A39.out).mono ?_); (case side1 => repeat (first | exact HR0.out | (with_reducible refine Kd.C_alloc ?_ _) | (with_reducible refine Kd.C_drewN ?_ _) | (with_reducible refine Kd.C_drew ?_))); (case side2 => exact HC0.out); (case side3 => repeat (first | exact HR1.out | (with_reducible refine Kd.C_alloc ?_ _) | (with_reducible refine Kd.C_drewN ?_ _) | (with_reducible refine Kd.C_drew ?_))); (case side4 => exact HC1.out); rintro e w' ⟨rfl, ⟨nd, rfl⟩⟩; refine ⟨_, rfl, ?_⟩))
                                            go_roundg kj25
                                            case measure => have := HJ5.out; have := HJ9.out; have := HK3.out; have := HJ25.out; omega
                                            case rel => exact ⟨(x14_3), (wrap64 (x15_3 + (rd l1 (ji32)))), (wrap64 (x16_3 + 1)), (by first | rfl | (simp; done) | (simp [*]; done)), (by first | rfl | (simp; done) | (simp only [← hji32] <;> (first | rfl | simp)) | (simp [*]; done)), (by first | rfl | (simp; done) | (simp [*]; done)), H', ⟨by have := HJ5.out; have := HJ9.out; have := HK3.out; have := HJ25.out; omega⟩, by repeat (first | exact Drawn0.refl _ | apply Drawn0.step)⟩
                                  · rw [if_neg c36] at H
                                    exact absurd H (by simp)
                                · rw [if_neg c35] at H
                                  exact absurd H (by simp)
                              · rw [if_neg c34] at H
                                exact absurd H (by simp)
                            · rw [if_neg c33] at H
                              exact absurd H (by simp)
                    · rw [if_neg c25] at H
                      exact absurd H (by simp)
                  · rw [if_neg c24] at H
                    exact absurd H (by simp)
                · rw [if_neg c23] at H
                  have c23b0 : decide (x16_3 < a3) = false := decide_eq_false c23
                  clear c23
                  obtain rfl := Option.some.inj H
                  go_wp2
                  go_ret
                  exact ⟨by first | rfl | (simp; done) | (simp [*]; done), by repeat (first | exact Drawn0.refl _ | apply Drawn0.step)⟩
end Go.Proofs.Ytiejdbdbafmccaa.PCh
/- part PChx21 -/
namespace Go.Proofs.Ytiejdbdbafmccaa.PCh
open Go.RowKit Go.Proofs.YtiejdbdbafmccaaW.PrintWords Go.Proofs.YtiejdbdbafmccaaW.PrintLast Go.Proofs.YtiejdbdbafmccaaW.PrintMore
attribute [local go_sem] max2_int min2_int max_two min_two max_three min_three max_four min_four
set_option linter.unusedVariables false
set_option linter.unusedSimpArgs false
mutual
def athanorlaw20_ChainLeast.j0 : Nat → Int → Bool → List Int → List Int → Option (Bool)
  | 0, _, _, _, _ => none
  | k + 1, x1, x29, x236000, x236001 => if x29 = true then ((athanorlaw20_awake.f k).bind fun t236 => (some t236)) else ((chain_Chain_Least.f x236000 x236001 x1).bind fun bt237 => ((athanorlaw20_right.f k x236000 x236001).bind fun t239 => (if t239 = true then ((chain_Chain_Right.f x236000 x236001).bind fun t244 => (if t244 = true then ((chain_Chain_Nodes.f x236000 x236001).bind fun t245 => (if t245 = (x236001.length : Int) then ((chain_Chain_Total.f k x236000 x236001).bind fun t246 => ((athanorlaw20_total.f k x236000 x236001).bind fun t247 => (athanorlaw20_ChainLeast.j1 k x1 bt237.1 bt237.2 (t246 != t247) x236000 x236001))) else (athanorlaw20_ChainLeast.j1 k x1 bt237.1 bt237.2 true x236000 x236001))) else (athanorlaw20_ChainLeast.j1 k x1 bt237.1 bt237.2 true x236000 x236001))) else (if bt237.2 = 10 then (if bt237.1 = 0 then ((chain_Chain_Right.f x236000 x236001).bind fun t240 => (if t240 = true then (some false) else ((chain_Chain_Nodes.f x236000 x236001).bind fun t241 => (if t241 = 0 then ((chain_Chain_Total.f k x236000 x236001).bind fun t242 => (if t242 = 0 then ((athanorlaw20_awake.f k).bind fun t243 => (some t243)) else (some false))) else (some false))))) else (some false)) else (some false)))))
def athanorlaw20_ChainLeast.j1 : Nat → Int → Int → Int → Bool → List Int → List Int → Option (Bool)
  | 0, _, _, _, _, _, _ => none
  | k + 1, x1, x5, x6, x81, x236000, x236001 => if x81 = true then (some false) else (if x1 < 0 then (athanorlaw20_ChainLeast.j2 k x1 x5 x6 true x236000 x236001) else (athanorlaw20_ChainLeast.j2 k x1 x5 x6 (decide (x1 > 4096)) x236000 x236001))
def athanorlaw20_ChainLeast.j2 : Nat → Int → Int → Int → Bool → List Int → List Int → Option (Bool)
  | 0, _, _, _, _, _, _ => none
  | k + 1, x1, x5, x6, x87, x236000, x236001 => if x87 = true then (if x6 = 11 then (if x5 = 0 then ((athanorlaw20_awake.f k).bind fun t248 => (some t248)) else (some false)) else (some false)) else (if (x236001.length : Int) > 7 then ((athanorlaw20_awake.f k).bind fun t249 => (some t249)) else ((athanorref20_Least.f k x236000 x236001 0 (x236001.length : Int) x1).bind fun t250 => (if t250 < 0 then (if x6 = 26 then (if x5 = 0 then ((athanorlaw20_awake.f k).bind fun t251 => (some t251)) else (some false)) else (some false)) else (if x6 = 0 then (if x5 = t250 then ((athanorlaw20_awake.f k).bind fun t252 => (some t252)) else (some false)) else (some false)))))
end
def athanorlaw20_ChainLeast.f (k : Nat) (l0_0 : List Int) (l0_1 : List Int) (a1 : Int) : Option (Bool) := if (l0_1.length : Int) > 16 then (if (l0_1.length : Int) ≤ 64 then (athanorlaw20_ChainLeast.j0 k a1 true l0_0 l0_1) else (if (l0_1.length : Int) > 100 then (athanorlaw20_ChainLeast.j0 k a1 true l0_0 l0_1) else (athanorlaw20_ChainLeast.j0 k a1 (decide ((l0_0.length : Int) > 100)) l0_0 l0_1))) else (if (l0_1.length : Int) > 100 then (athanorlaw20_ChainLeast.j0 k a1 true l0_0 l0_1) else (athanorlaw20_ChainLeast.j0 k a1 (decide ((l0_0.length : Int) > 100)) l0_0 l0_1))
theorem athanorlaw20_ChainLeast.mono_l : ∀ k, (∀ y0 y1 y2 y3, LeO (athanorlaw20_ChainLeast.j0 k y0 y1 y2 y3) (athanorlaw20_ChainLeast.j0 (k + 1) y0 y1 y2 y3)) ∧ (∀ y0 y1 y2 y3 y4 y5, LeO (athanorlaw20_ChainLeast.j1 k y0 y1 y2 y3 y4 y5) (athanorlaw20_ChainLeast.j1 (k + 1) y0 y1 y2 y3 y4 y5)) ∧ (∀ y0 y1 y2 y3 y4 y5, LeO (athanorlaw20_ChainLeast.j2 k y0 y1 y2 y3 y4 y5) (athanorlaw20_ChainLeast.j2 (k + 1) y0 y1 y2 y3 y4 y5))
  | 0 => ⟨fun _ _ _ _ r h => by simp [athanorlaw20_ChainLeast.j0] at h, fun _ _ _ _ _ _ r h => by simp [athanorlaw20_ChainLeast.j1] at h, fun _ _ _ _ _ _ r h => by simp [athanorlaw20_ChainLeast.j2] at h⟩
  | k + 1 => by
    obtain ⟨ih0, ih1, ih2⟩ := athanorlaw20_ChainLeast.mono_l k
    refine ⟨?_, ?_, ?_⟩
    · intro y0 y1 y2 y3
      unfold athanorlaw20_ChainLeast.j0
      repeat' first
      | (with_reducible exact ih0 _ _ _ _)
      | (with_reducible exact ih1 _ _ _ _ _ _)
      | (with_reducible exact ih2 _ _ _ _ _ _)
      | (with_reducible exact athanorlaw20_awake.mono _)
      | (with_reducible exact athanorlaw20_right.mono _ _ _)
      | (with_reducible exact athanorlaw20_total.mono _ _ _)
      | (with_reducible exact athanorref20_Least.mono _ _ _ _ _ _)
      | (with_reducible exact chain_Chain_Total.mono _ _ _)
      | (with_reducible exact LeO.refl _)
      | (with_reducible exact LeO.none _)
      | (with_reducible refine LeO.ite ?_ ?_)
      | (with_reducible refine LeO.bind ?_ (fun _ => ?_))
      | exact ih0 _ _ _ _
      | exact ih1 _ _ _ _ _ _
      | exact ih2 _ _ _ _ _ _
      | exact athanorlaw20_awake.mono _
      | exact athanorlaw20_right.mono _ _ _
      | exact athanorlaw20_total.mono _ _ _
      | exact athanorref20_Least.mono _ _ _ _ _ _
      | exact chain_Chain_Total.mono _ _ _
      | exact LeO.none _
      | refine LeO.ite ?_ ?_
      | refine LeO.bind ?_ (fun _ => ?_)
    · intro y0 y1 y2 y3 y4 y5
      unfold athanorlaw20_ChainLeast.j1
      repeat' first
      | (with_reducible exact ih0 _ _ _ _)
      | (with_reducible exact ih1 _ _ _ _ _ _)
      | (with_reducible exact ih2 _ _ _ _ _ _)
      | (with_reducible exact athanorlaw20_awake.mono _)
      | (with_reducible exact athanorlaw20_right.mono _ _ _)
      | (with_reducible exact athanorlaw20_total.mono _ _ _)
      | (with_reducible exact athanorref20_Least.mono _ _ _ _ _ _)
      | (with_reducible exact chain_Chain_Total.mono _ _ _)
      | (with_reducible exact LeO.refl _)
      | (with_reducible exact LeO.none _)
      | (with_reducible refine LeO.ite ?_ ?_)
      | (with_reducible refine LeO.bind ?_ (fun _ => ?_))
      | exact ih0 _ _ _ _
      | exact ih1 _ _ _ _ _ _
      | exact ih2 _ _ _ _ _ _
      | exact athanorlaw20_awake.mono _
      | exact athanorlaw20_right.mono _ _ _
      | exact athanorlaw20_total.mono _ _ _
      | exact athanorref20_Least.mono _ _ _ _ _ _
      | exact chain_Chain_Total.mono _ _ _
      | exact LeO.none _
      | refine LeO.ite ?_ ?_
      | refine LeO.bind ?_ (fun _ => ?_)
    · intro y0 y1 y2 y3 y4 y5
      unfold athanorlaw20_ChainLeast.j2
      repeat' first
      | (with_reducible exact ih0 _ _ _ _)
      | (with_reducible exact ih1 _ _ _ _ _ _)
      | (with_reducible exact ih2 _ _ _ _ _ _)
      | (with_reducible exact athanorlaw20_awake.mono _)
      | (with_reducible exact athanorlaw20_right.mono _ _ _)
      | (with_reducible exact athanorlaw20_total.mono _ _ _)
      | (with_reducible exact athanorref20_Least.mono _ _ _ _ _ _)
      | (with_reducible exact chain_Chain_Total.mono _ _ _)
      | (with_reducible exact LeO.refl _)
      | (with_reducible exact LeO.none _)
      | (with_reducible refine LeO.ite ?_ ?_)
      | (with_reducible refine LeO.bind ?_ (fun _ => ?_))
      | exact ih0 _ _ _ _
      | exact ih1 _ _ _ _ _ _
      | exact ih2 _ _ _ _ _ _
      | exact athanorlaw20_awake.mono _
      | exact athanorlaw20_right.mono _ _ _
      | exact athanorlaw20_total.mono _ _ _
      | exact athanorref20_Least.mono _ _ _ _ _ _
      | exact chain_Chain_Total.mono _ _ _
      | exact LeO.none _
      | refine LeO.ite ?_ ?_
      | refine LeO.bind ?_ (fun _ => ?_)
theorem athanorlaw20_ChainLeast.mono : ∀ a0 a1 a2 k, LeO (athanorlaw20_ChainLeast.f k a0 a1 a2) (athanorlaw20_ChainLeast.f (k + 1) a0 a1 a2) := by
  intro a0 a1 a2 k
  obtain ⟨ih0, ih1, ih2⟩ := athanorlaw20_ChainLeast.mono_l k
  unfold athanorlaw20_ChainLeast.f
  repeat' first
      | (with_reducible exact ih0 _ _ _ _)
      | (with_reducible exact ih1 _ _ _ _ _ _)
      | (with_reducible exact ih2 _ _ _ _ _ _)
      | (with_reducible exact athanorlaw20_awake.mono _)
      | (with_reducible exact athanorlaw20_right.mono _ _ _)
      | (with_reducible exact athanorlaw20_total.mono _ _ _)
      | (with_reducible exact athanorref20_Least.mono _ _ _ _ _ _)
      | (with_reducible exact chain_Chain_Total.mono _ _ _)
      | (with_reducible exact LeO.refl _)
      | (with_reducible exact LeO.none _)
      | (with_reducible refine LeO.ite ?_ ?_)
      | (with_reducible refine LeO.bind ?_ (fun _ => ?_))
      | exact ih0 _ _ _ _
      | exact ih1 _ _ _ _ _ _
      | exact ih2 _ _ _ _ _ _
      | exact athanorlaw20_awake.mono _
      | exact athanorlaw20_right.mono _ _ _
      | exact athanorlaw20_total.mono _ _ _
      | exact athanorref20_Least.mono _ _ _ _ _ _
      | exact chain_Chain_Total.mono _ _ _
      | exact LeO.none _
      | refine LeO.ite ?_ ?_
      | refine LeO.bind ?_ (fun _ => ?_)
def athanorlaw20_ChainLeast.T6 : Bool × List (List Nat × List Nat) := (true, [([], []), ([0], [0]), ([1], [1]), ([2, 1], [2]), ([3], [3]), ([4, 3, 3], [3, 4]), ([3], [3]), ([6, 3], [3, 6]), ([7, 3], [3, 7]), ([5, 8, 3], [3, 5, 8]), ([3, 9], [3, 9]), ([10, 5], [10]), ([11], [11]), ([12, 11, 11], [11, 12]), ([11], [11]), ([14, 13, 11], [11, 14]), ([13, 15, 11], [11, 13, 15]), ([11, 16], [11, 16])])
def athanorlaw20_ChainLeast.B6 : List Nat := [0, 1, 3, 7, 15, 31, 15, 79, 207, 511, 1023, 2047, 4095, 8191, 4095, 32767, 65535, 131071]
theorem athanorlaw20_ChainLeast.tab6 : rtab .any (opsOf Try.f7 6) = athanorlaw20_ChainLeast.T6 := by kernel_rfl
theorem athanorlaw20_ChainLeast.bits6 : waitsOk athanorlaw20_ChainLeast.T6.2 athanorlaw20_ChainLeast.B6 = true := by kernel_rfl
set_option maxHeartbeats 8000000 in
set_option maxRecDepth 100000 in
theorem athanorlaw20_ChainLeast.calls (k : Nat) (A0_0 : Option Addr) (c0_0 : Nat) (l0_0 : List Int) (A0_1 : Option Addr) (c0_1 : Nat) (l0_1 : List Int) (a1 : Int) (r : Bool) (w : World) (hr0_0 : Kd.C (Kd.int .i64) w A0_0 l0_0.length l0_0) (hc0_0 : l0_0.length ≤ c0_0) (hr0_1 : Kd.C (Kd.int .i64) w A0_1 l0_1.length l0_1) (hc0_1 : l0_1.length ≤ c0_1) (h : athanorlaw20_ChainLeast.f k l0_0 l0_1 a1 = some r) :
    Calls Try.prog 7 #[.agg #[.slice A0_0 l0_0.length c0_0, .slice A0_1 l0_1.length c0_1], .int .i64 a1] w fun e w' => e = .returned (.bool r) ∧ Below w.heap.size w w' := by
  have hu24 := Try.underlying24
  have HR0_0 := Aside0.mk hr0_0
  have HC0_0 := Aside0.mk hc0_0
  clear hr0_0 hc0_0
  have HR0_1 := Aside0.mk hr0_1
  have HC0_1 := Aside0.mk hc0_1
  clear hr0_1 hc0_1
  have HB := Aside0.mk (Below.refl w.heap.size w)
  have H : (if (l0_1.length : Int) > 16 then (if (l0_1.length : Int) ≤ 64 then (athanorlaw20_ChainLeast.j0 k a1 true l0_0 l0_1) else (if (l0_1.length : Int) > 100 then (athanorlaw20_ChainLeast.j0 k a1 true l0_0 l0_1) else (athanorlaw20_ChainLeast.j0 k a1 (decide ((l0_0.length : Int) > 100)) l0_0 l0_1))) else (if (l0_1.length : Int) > 100 then (athanorlaw20_ChainLeast.j0 k a1 true l0_0 l0_1) else (athanorlaw20_ChainLeast.j0 k a1 (decide ((l0_0.length : Int) > 100)) l0_0 l0_1))) = some r := h
  clear h
  have HC3 := Aside0.mk H
  clear H
  go_enter Try.func7, Try.ntmps7
  go_upto_region 1 with (first | ((with_reducible refine gate_dst (N := 2) rfl ?_); (try (refine gate_guard (by rfl) ?_; dsimp only)); refine box_event ?hg (N := 2) ?hd (cs := #[.slice A0_0 l0_0.length c0_0, .slice A0_1 l0_1.length c0_1]) (t := 24) ?hr ?_; (case hd => rfl); (case hg => rfl); (case hr => first | (go_simp; done) | (go_simp; rfl)); intro gb235 hg w4 hbox hb; have n0_ := Aside0.mk (below_step (by repeat (first | (with_reducible first | exact HB.out | apply below_alloc | apply pw_below_drewN | apply below_drew1) | exact HB.out)) hb); have n1_ := Aside0.mk (hbox); have n2_ := Aside0.mk ((by rw [hg]; exact (below_size (by repeat (first | (with_reducible first | exact HB.out | apply below_alloc | apply pw_below_drewN | apply below_drew1) | exact HB.out))) : w.heap.size ≤ gb235)); have n3_ := Aside0.mk ((by rw [hg]; exact (below_size (by repeat (first | (with_reducible first | exact HB.out | apply below_alloc | apply pw_below_drewN | apply below_drew1) | exact HB.out))) : w.heap.size ≤ gb235)); clear HB; have HB := n0_; have BK235 := n1_; have GW235 := n2_; have GE235 := n3_; clear n0_ n1_ n2_ n3_; clear hb hbox hg))
  (try simp only [Act.put, List.setIfInBounds_toArray, List.set_cons_zero, List.set_cons_succ])
  go_cut [29] (fun v29 wc => ∃ (kq : Nat) (x29_2 : Bool), v29 = .bool x29_2 ∧ Aside0 (athanorlaw20_ChainLeast.j0 kq a1 x29_2 l0_0 l0_1 = some r) ∧ Aside0 (kq ≤ k) ∧ Aside0 (wc.heap[gb235]? = some (.cells #[(.slice A0_0 l0_0.length c0_0), (.slice A0_1 l0_1.length c0_1)] 24 (0, 0))) ∧ Aside0 (Below w.heap.size w wc))
  case first =>
    have H := HC3.out
    clear HC3
    by_cases c5 : (l0_1.length : Int) > 16
    · rw [if_pos c5] at H
      have c5b0 : decide (16 < (l0_1.length : Int)) = true := decide_eq_true c5
      have c5b1 : decide (16 < l0_1.length) = true := decide_eq_true (by omega)
      clear c5
      (first | rw [c5b0] | (simp only [i64_w, i32_w]; rw [c5b0]) | skip)
      by_cases c6 : (l0_1.length : Int) ≤ 64
      · rw [if_pos c6] at H
        have c6b0 : decide ((l0_1.length : Int) ≤ 64) = true := decide_eq_true c6
        have c6b1 : decide (l0_1.length ≤ 64) = true := decide_eq_true (by omega)
        clear c6
        have H' := Aside0.mk H
        clear H
        have hcz7_0 : w4.cell? ⟨gb235, 0, none⟩ = some (.slice A0_0 l0_0.length c0_0) := (blk_cell BK235.out 0).trans rfl
        have hcz7_1 : w4.cell? ⟨gb235, 1, none⟩ = some (.slice A0_1 l0_1.length c0_1) := (blk_cell BK235.out 1).trans rfl
        have hfz7_0 := blk_frozen BK235.out 0
        have hfz7_1 := blk_frozen BK235.out 1
        go_wp2
        go_meet
        case rel => exact ⟨_, (true), (by first | rfl | (simp; done) | (simp [*]; done)), H', ⟨by first | omega | exact Nat.le_refl _⟩, ⟨by (with_reducible repeat (first | refine blk_drewN ?_ _ | refine blk_drew ?_ | refine blk_alloc ?_ _)); exact BK235.out⟩, ⟨by repeat (first | (with_reducible first | exact HB.out | apply below_alloc | apply pw_below_drewN | apply below_drew1 | refine below_set ?_ GE235.out) | exact HB.out)⟩⟩
      · rw [if_neg c6] at H
        have c6b0 : decide ((l0_1.length : Int) ≤ 64) = false := decide_eq_false c6
        have c6b1 : decide (l0_1.length ≤ 64) = false := decide_eq_false (by omega)
        clear c6
        by_cases c8 : (l0_1.length : Int) > 100
        · rw [if_pos c8] at H
          have c8b0 : decide (100 < (l0_1.length : Int)) = true := decide_eq_true c8
          have c8b1 : decide (100 < l0_1.length) = true := decide_eq_true (by omega)
          clear c8
          have H' := Aside0.mk H
          clear H
          have hcz9_0 : w4.cell? ⟨gb235, 0, none⟩ = some (.slice A0_0 l0_0.length c0_0) := (blk_cell BK235.out 0).trans rfl
          have hcz9_1 : w4.cell? ⟨gb235, 1, none⟩ = some (.slice A0_1 l0_1.length c0_1) := (blk_cell BK235.out 1).trans rfl
          have hfz9_0 := blk_frozen BK235.out 0
          have hfz9_1 := blk_frozen BK235.out 1
          go_wp2
          go_meet
          case rel => exact ⟨_, (true), (by first | rfl | (simp; done) | (simp [*]; done)), H', ⟨by first | omega | exact Nat.le_refl _⟩, ⟨by (with_reducible repeat (first | refine blk_drewN ?_ _ | refine blk_drew ?_ | refine blk_alloc ?_ _)); exact BK235.out⟩, ⟨by repeat (first | (with_reducible first | exact HB.out | apply below_alloc | apply pw_below_drewN | apply below_drew1 | refine below_set ?_ GE235.out) | exact HB.out)⟩⟩
        · rw [if_neg c8] at H
          have c8b0 : decide (100 < (l0_1.length : Int)) = false := decide_eq_false c8
          have c8b1 : decide (100 < l0_1.length) = false := decide_eq_false (by omega)
          clear c8
          have H' := Aside0.mk H
          clear H
          have hcz10_0 : w4.cell? ⟨gb235, 0, none⟩ = some (.slice A0_0 l0_0.length c0_0) := (blk_cell BK235.out 0).trans rfl
          have hcz10_1 : w4.cell? ⟨gb235, 1, none⟩ = some (.slice A0_1 l0_1.length c0_1) := (blk_cell BK235.out 1).trans rfl
          have hfz10_0 := blk_frozen BK235.out 0
          have hfz10_1 := blk_frozen BK235.out 1
          go_wp2
          go_meet
          case rel => exact ⟨_, (decide ((l0_0.length : Int) > 100)), (by first | rfl | (simp; done) | (simp [*]; done)), H', ⟨by first | omega | exact Nat.le_refl _⟩, ⟨by (with_reducible repeat (first | refine blk_drewN ?_ _ | refine blk_drew ?_ | refine blk_alloc ?_ _)); exact BK235.out⟩, ⟨by repeat (first | (with_reducible first | exact HB.out | apply below_alloc | apply pw_below_drewN | apply below_drew1 | refine below_set ?_ GE235.out) | exact HB.out)⟩⟩
    · rw [if_neg c5] at H
      have c5b0 : decide (16 < (l0_1.length : Int)) = false := decide_eq_false c5
      have c5b1 : decide (16 < l0_1.length) = false := decide_eq_false (by omega)
      clear c5
      (first | rw [c5b0] | (simp only [i64_w, i32_w]; rw [c5b0]) | skip)
      by_cases c11 : (l0_1.length : Int) > 100
      · rw [if_pos c11] at H
        have c11b0 : decide (100 < (l0_1.length : Int)) = true := decide_eq_true c11
        have c11b1 : decide (100 < l0_1.length) = true := decide_eq_true (by omega)
        clear c11
        have H' := Aside0.mk H
        clear H
        have hcz12_0 : w4.cell? ⟨gb235, 0, none⟩ = some (.slice A0_0 l0_0.length c0_0) := (blk_cell BK235.out 0).trans rfl
        have hcz12_1 : w4.cell? ⟨gb235, 1, none⟩ = some (.slice A0_1 l0_1.length c0_1) := (blk_cell BK235.out 1).trans rfl
        have hfz12_0 := blk_frozen BK235.out 0
        have hfz12_1 := blk_frozen BK235.out 1
        go_wp2
        go_meet
        case rel => exact ⟨_, (true), (by first | rfl | (simp; done) | (simp [*]; done)), H', ⟨by first | omega | exact Nat.le_refl _⟩, ⟨by (with_reducible repeat (first | refine blk_drewN ?_ _ | refine blk_drew ?_ | refine blk_alloc ?_ _)); exact BK235.out⟩, ⟨by repeat (first | (with_reducible first | exact HB.out | apply below_alloc | apply pw_below_drewN | apply below_drew1 | refine below_set ?_ GE235.out) | exact HB.out)⟩⟩
      · rw [if_neg c11] at H
        have c11b0 : decide (100 < (l0_1.length : Int)) = false := decide_eq_false c11
        have c11b1 : decide (100 < l0_1.length) = false := decide_eq_false (by omega)
        clear c11
        have H' := Aside0.mk H
        clear H
        have hcz13_0 : w4.cell? ⟨gb235, 0, none⟩ = some (.slice A0_0 l0_0.length c0_0) := (blk_cell BK235.out 0).trans rfl
        have hcz13_1 : w4.cell? ⟨gb235, 1, none⟩ = some (.slice A0_1 l0_1.length c0_1) := (blk_cell BK235.out 1).trans rfl
        have hfz13_0 := blk_frozen BK235.out 0
        have hfz13_1 := blk_frozen BK235.out 1
        go_wp2
        go_meet
        case rel => exact ⟨_, (decide ((l0_0.length : Int) > 100)), (by first | rfl | (simp; done) | (simp [*]; done)), H', ⟨by first | omega | exact Nat.le_refl _⟩, ⟨by (with_reducible repeat (first | refine blk_drewN ?_ _ | refine blk_drew ?_ | refine blk_alloc ?_ _)); exact BK235.out⟩, ⟨by repeat (first | (with_reducible first | exact HB.out | apply below_alloc | apply pw_below_drewN | apply below_drew1 | refine below_set ?_ GE235.out) | exact HB.out)⟩⟩
  case rest =>
    clear HC3
    try clear c1
    try clear p2
    try clear c5
    try clear c5b0
    try clear c5b1
    try clear c6
    try clear c6b0
    try clear c6b1
    try clear c7
    try clear c8
    try clear c8b0
    try clear c8b1
    try clear c11
    try clear c11b0
    try clear c11b1
    try clear hcz10_0
    try clear hcz10_1
    try clear hcz12_0
    try clear hcz12_1
    try clear hcz13_0
    try clear hcz13_1
    try clear hcz7_0
    try clear hcz7_1
    try clear hcz9_0
    try clear hcz9_1
    try clear hfz10_0
    try clear hfz10_1
    try clear hfz12_0
    try clear hfz12_1
    try clear hfz13_0
    try clear hfz13_1
    try clear hfz7_0
    try clear hfz7_1
    try clear hfz9_0
    try clear hfz9_1
    obtain ⟨kq, x29_2, rfl, HA, HJ2, BK235, HB⟩ := hcut
    cases kq with
    | zero => exact absurd HA.out (by simp [athanorlaw20_ChainLeast.j0])
    | succ kj2 =>
      have H := HA.out
      clear HA
      simp only [athanorlaw20_ChainLeast.j0] at H
      by_cases c14 : x29_2 = true
      · subst c14
        have H1 : ((athanorlaw20_awake.f kj2).bind fun t236 => (some t236)) = some r := by rw [if_pos rfl] at H; exact H
        clear H
        have H := H1
        clear H1
        replace H := Option.bind_eq_some_iff.mp H
        obtain ⟨t236, A150, H⟩ := H
        replace H : (some t236) = some r := H
        have A15 := Aside0.mk A150
        clear A150
        obtain rfl := Option.some.inj H
        go_wp2_with (first | ((with_reducible refine gate_callee (f := 9) rfl ?_); refine goesL_ (some 30) rfl rfl Try.func9 (by kernel_rfl) rfl #[] rfl (by (try simp only [List.map_toArray, List.map_cons, List.map_nil]); first | done | rfl | (simp only [List.length_drop, List.length_take]; rfl)) ?_; (with_reducible refine (athanorlaw20_awake.calls kj2  t236 _ A15.out).mono ?_); rintro e w16 ⟨rfl, hb⟩; refine ⟨_, rfl, ?_⟩; have n0_ := Aside0.mk (blk_below (g := gb235) (o := .cells #[.slice A0_0 l0_0.length c0_0, .slice A0_1 l0_1.length c0_1] 24 (0, 0)) (by (with_reducible repeat (first | refine blk_drewN ?_ _ | refine blk_drew ?_ | refine blk_alloc ?_ _)); exact BK235.out) hb); have n1_ := Aside0.mk (below_step (by repeat (first | (with_reducible first | exact HB.out | apply below_alloc | apply pw_below_drewN | apply below_drew1 | refine below_set ?_ GE235.out) | exact HB.out)) hb); clear BK235; clear HB; have BK235 := n0_; have HB := n1_; clear n0_ n1_; (try clear hb); (try clear hb2); (try clear hk); (try clear hi)))
        go_ret
        exact ⟨by first | rfl | (simp [errW_none, errW_some] <;> rfl) | (simp [*, errW_none, errW_some] <;> rfl), by repeat (first | (with_reducible first | exact HB.out | apply below_alloc | apply pw_below_drewN | apply below_drew1 | refine below_set ?_ GE235.out) | exact HB.out)⟩
      · replace c14 := Bool.eq_false_iff.mpr c14
        subst c14
        have H1 : ((chain_Chain_Least.f l0_0 l0_1 a1).bind fun bt237 => ((athanorlaw20_right.f kj2 l0_0 l0_1).bind fun t239 => (if t239 = true then ((chain_Chain_Right.f l0_0 l0_1).bind fun t244 => (if t244 = true then ((chain_Chain_Nodes.f l0_0 l0_1).bind fun t245 => (if t245 = (l0_1.length : Int) then ((chain_Chain_Total.f kj2 l0_0 l0_1).bind fun t246 => ((athanorlaw20_total.f kj2 l0_0 l0_1).bind fun t247 => (athanorlaw20_ChainLeast.j1 kj2 a1 bt237.1 bt237.2 (t246 != t247) l0_0 l0_1))) else (athanorlaw20_ChainLeast.j1 kj2 a1 bt237.1 bt237.2 true l0_0 l0_1))) else (athanorlaw20_ChainLeast.j1 kj2 a1 bt237.1 bt237.2 true l0_0 l0_1))) else (if bt237.2 = 10 then (if bt237.1 = 0 then ((chain_Chain_Right.f l0_0 l0_1).bind fun t240 => (if t240 = true then (some false) else ((chain_Chain_Nodes.f l0_0 l0_1).bind fun t241 => (if t241 = 0 then ((chain_Chain_Total.f kj2 l0_0 l0_1).bind fun t242 => (if t242 = 0 then ((athanorlaw20_awake.f kj2).bind fun t243 => (some t243)) else (some false))) else (some false))))) else (some false)) else (some false))))) = some r := by rw [if_neg (show ¬ (false = true) by decide)] at H; exact H
        clear H
        have H := H1
        clear H1
        replace H := Option.bind_eq_some_iff.mp H
        obtain ⟨⟨t237, t238⟩, A170, H⟩ := H
        replace H : ((athanorlaw20_right.f kj2 l0_0 l0_1).bind fun t239 => (if t239 = true then ((chain_Chain_Right.f l0_0 l0_1).bind fun t244 => (if t244 = true then ((chain_Chain_Nodes.f l0_0 l0_1).bind fun t245 => (if t245 = (l0_1.length : Int) then ((chain_Chain_Total.f kj2 l0_0 l0_1).bind fun t246 => ((athanorlaw20_total.f kj2 l0_0 l0_1).bind fun t247 => (athanorlaw20_ChainLeast.j1 kj2 a1 t237 t238 (t246 != t247) l0_0 l0_1))) else (athanorlaw20_ChainLeast.j1 kj2 a1 t237 t238 true l0_0 l0_1))) else (athanorlaw20_ChainLeast.j1 kj2 a1 t237 t238 true l0_0 l0_1))) else (if t238 = 10 then (if t237 = 0 then ((chain_Chain_Right.f l0_0 l0_1).bind fun t240 => (if t240 = true then (some false) else ((chain_Chain_Nodes.f l0_0 l0_1).bind fun t241 => (if t241 = 0 then ((chain_Chain_Total.f kj2 l0_0 l0_1).bind fun t242 => (if t242 = 0 then ((athanorlaw20_awake.f kj2).bind fun t243 => (some t243)) else (some false))) else (some false))))) else (some false)) else (some false)))) = some r := H
        have A17 := Aside0.mk A170
        clear A170
        replace H := Option.bind_eq_some_iff.mp H
        obtain ⟨t239, A180, H⟩ := H
        replace H : (if t239 = true then ((chain_Chain_Right.f l0_0 l0_1).bind fun t244 => (if t244 = true then ((chain_Chain_Nodes.f l0_0 l0_1).bind fun t245 => (if t245 = (l0_1.length : Int) then ((chain_Chain_Total.f kj2 l0_0 l0_1).bind fun t246 => ((athanorlaw20_total.f kj2 l0_0 l0_1).bind fun t247 => (athanorlaw20_ChainLeast.j1 kj2 a1 t237 t238 (t246 != t247) l0_0 l0_1))) else (athanorlaw20_ChainLeast.j1 kj2 a1 t237 t238 true l0_0 l0_1))) else (athanorlaw20_ChainLeast.j1 kj2 a1 t237 t238 true l0_0 l0_1))) else (if t238 = 10 then (if t237 = 0 then ((chain_Chain_Right.f l0_0 l0_1).bind fun t240 => (if t240 = true then (some false) else ((chain_Chain_Nodes.f l0_0 l0_1).bind fun t241 => (if t241 = 0 then ((chain_Chain_Total.f kj2 l0_0 l0_1).bind fun t242 => (if t242 = 0 then ((athanorlaw20_awake.f kj2).bind fun t243 => (some t243)) else (some false))) else (some false))))) else (some false)) else (some false))) = some r := H
        have A18 := Aside0.mk A180
        clear A180
        by_cases c19 : t239 = true
        · subst c19
          have H1 : ((chain_Chain_Right.f l0_0 l0_1).bind fun t244 => (if t244 = true then ((chain_Chain_Nodes.f l0_0 l0_1).bind fun t245 => (if t245 = (l0_1.length : Int) then ((chain_Chain_Total.f kj2 l0_0 l0_1).bind fun t246 => ((athanorlaw20_total.f kj2 l0_0 l0_1).bind fun t247 => (athanorlaw20_ChainLeast.j1 kj2 a1 t237 t238 (t246 != t247) l0_0 l0_1))) else (athanorlaw20_ChainLeast.j1 kj2 a1 t237 t238 true l0_0 l0_1))) else (athanorlaw20_ChainLeast.j1 kj2 a1 t237 t238 true l0_0 l0_1))) = some r := by rw [if_pos rfl] at H; exact H
          clear H
          have H := H1
          clear H1
          have HC20 := Aside0.mk H
          clear H
          have hcz21_0 : wc.cell? ⟨gb235, 0, none⟩ = some (.slice A0_0 l0_0.length c0_0) := (blk_cell BK235.out 0).trans rfl
          have hcz21_1 : wc.cell? ⟨gb235, 1, none⟩ = some (.slice A0_1 l0_1.length c0_1) := (blk_cell BK235.out 1).trans rfl
          have hfz21_0 := blk_frozen BK235.out 0
          have hfz21_1 := blk_frozen BK235.out 1
          go_upto_region 6 with (first | ((with_reducible refine gate_callee (f := 10) rfl ?_); refine goesL_ (some 34) rfl rfl Try.func10 (by kernel_rfl) rfl #[.agg #[.slice A0_0 l0_0.length c0_0, .slice A0_1 l0_1.length c0_1], .int .i64 a1] rfl (by (try simp only [List.map_toArray, List.map_cons, List.map_nil]); first | done | rfl | (simp only [List.length_drop, List.length_take]; rfl)) ?_; (with_reducible refine (chain_Chain_Least.calls _ _ l0_0 _ _ l0_1 a1 t237 t238 _ ?side1 ?side2 ?side3 ?side4 A17.out).mono ?_); (case side1 => repeat (first | exact (Kd.C_below HR0_0.out HB.out) | (with_reducible refine Kd.C_alloc ?_ _) | (with_reducible refine Kd.C_drewN ?_ _) | (with_reducible refine Kd.C_drew ?_))); (case side2 => exact HC0_0.out); (case side3 => repeat (first | exact (Kd.C_below HR0_1.out HB.out) | (with_reducible refine Kd.C_alloc ?_ _) | (with_reducible refine Kd.C_drewN ?_ _) | (with_reducible refine Kd.C_drew ?_))); (case side4 => exact HC0_1.out); rintro e w22 ⟨rfl, hb⟩; refine ⟨_, rfl, ?_⟩; have n0_ := Aside0.mk (blk_below (g := gb235) (o := .cells #[.slice A0_0 l0_0.length c0_0, .slice A0_1 l0_1.length c0_1] 24 (0, 0)) (by (with_reducible repeat (first | refine blk_drewN ?_ _ | refine blk_drew ?_ | refine blk_alloc ?_ _)); exact BK235.out) hb); have n1_ := Aside0.mk (below_step (by repeat (first | (with_reducible first | exact HB.out | apply below_alloc | apply pw_below_drewN | apply below_drew1 | refine below_set ?_ GE235.out) | exact HB.out)) hb); clear BK235; clear HB; have BK235 := n0_; have HB := n1_; clear n0_ n1_; (try clear hb); (try clear hb2); (try clear hk); (try clear hi); have hcz23_0 : w22.cell? ⟨gb235, 0, none⟩ = some (.slice A0_0 l0_0.length c0_0) := (blk_cell BK235.out 0).trans rfl; have hcz23_1 : w22.cell? ⟨gb235, 1, none⟩ = some (.slice A0_1 l0_1.length c0_1) := (blk_cell BK235.out 1).trans rfl; have hfz23_0 := blk_frozen BK235.out 0; have hfz23_1 := blk_frozen BK235.out 1) | ((with_reducible refine gate_callee (f := 14) rfl ?_); refine goesL_ (some 38) rfl rfl Try.func14 (by kernel_rfl) rfl #[.agg #[.slice A0_0 l0_0.length c0_0, .slice A0_1 l0_1.length c0_1]] rfl (by (try simp only [List.map_toArray, List.map_cons, List.map_nil]); first | done | rfl | (simp only [List.length_drop, List.length_take]; rfl)) ?_; (with_reducible refine (athanorlaw20_right.calls kj2 _ _ l0_0 _ _ l0_1 true _ ?side1 ?side2 ?side3 ?side4 A18.out).mono ?_); (case side1 => repeat (first | exact (Kd.C_below HR0_0.out HB.out) | (with_reducible refine Kd.C_alloc ?_ _) | (with_reducible refine Kd.C_drewN ?_ _) | (with_reducible refine Kd.C_drew ?_))); (case side2 => exact HC0_0.out); (case side3 => repeat (first | exact (Kd.C_below HR0_1.out HB.out) | (with_reducible refine Kd.C_alloc ?_ _) | (with_reducible refine Kd.C_drewN ?_ _) | (with_reducible refine Kd.C_drew ?_))); (case side4 => exact HC0_1.out); rintro e w24 ⟨rfl, hb⟩; refine ⟨_, rfl, ?_⟩; have n0_ := Aside0.mk (blk_below (g := gb235) (o := .cells #[.slice A0_0 l0_0.length c0_0, .slice A0_1 l0_1.length c0_1] 24 (0, 0)) (by (with_reducible repeat (first | refine blk_drewN ?_ _ | refine blk_drew ?_ | refine blk_alloc ?_ _)); exact BK235.out) hb); have n1_ := Aside0.mk (below_step (by repeat (first | (with_reducible first | exact HB.out | apply below_alloc | apply pw_below_drewN | apply below_drew1 | refine below_set ?_ GE235.out) | exact HB.out)) hb); clear BK235; clear HB; have BK235 := n0_; have HB := n1_; clear n0_ n1_; (try clear hb); (try clear hb2); (try clear hk); (try clear hi)))
          (try simp only [Act.put, List.setIfInBounds_toArray, List.set_cons_zero, List.set_cons_succ])
          go_cut [81] (fun v81 wc => ∃ (kq : Nat) (x81_19 : Bool), v81 = .bool x81_19 ∧ Aside0 (athanorlaw20_ChainLeast.j1 kq a1 t237 t238 x81_19 l0_0 l0_1 = some r) ∧ Aside0 (kq ≤ kj2) ∧ Aside0 (wc.heap[gb235]? = some (.cells #[(.slice A0_0 l0_0.length c0_0), (.slice A0_1 l0_1.length c0_1)] 24 (0, 0))) ∧ Aside0 (Below w.heap.size w wc))
          case first =>
            have H := HC20.out
            clear HC20
            replace H := Option.bind_eq_some_iff.mp H
            obtain ⟨t244, A250, H⟩ := H
            replace H : (if t244 = true then ((chain_Chain_Nodes.f l0_0 l0_1).bind fun t245 => (if t245 = (l0_1.length : Int) then ((chain_Chain_Total.f kj2 l0_0 l0_1).bind fun t246 => ((athanorlaw20_total.f kj2 l0_0 l0_1).bind fun t247 => (athanorlaw20_ChainLeast.j1 kj2 a1 t237 t238 (t246 != t247) l0_0 l0_1))) else (athanorlaw20_ChainLeast.j1 kj2 a1 t237 t238 true l0_0 l0_1))) else (athanorlaw20_ChainLeast.j1 kj2 a1 t237 t238 true l0_0 l0_1)) = some r := H
            have A25 := Aside0.mk A250
            clear A250
            by_cases c26 : t244 = true
            · subst c26
              have H1 : ((chain_Chain_Nodes.f l0_0 l0_1).bind fun t245 => (if t245 = (l0_1.length : Int) then ((chain_Chain_Total.f kj2 l0_0 l0_1).bind fun t246 => ((athanorlaw20_total.f kj2 l0_0 l0_1).bind fun t247 => (athanorlaw20_ChainLeast.j1 kj2 a1 t237 t238 (t246 != t247) l0_0 l0_1))) else (athanorlaw20_ChainLeast.j1 kj2 a1 t237 t238 true l0_0 l0_1))) = some r := by rw [if_pos rfl] at H; exact H
              clear H
              have H := H1
              clear H1
              replace H := Option.bind_eq_some_iff.mp H
              obtain ⟨t245, A270, H⟩ := H
              replace H : (if t245 = (l0_1.length : Int) then ((chain_Chain_Total.f kj2 l0_0 l0_1).bind fun t246 => ((athanorlaw20_total.f kj2 l0_0 l0_1).bind fun t247 => (athanorlaw20_ChainLeast.j1 kj2 a1 t237 t238 (t246 != t247) l0_0 l0_1))) else (athanorlaw20_ChainLeast.j1 kj2 a1 t237 t238 true l0_0 l0_1)) = some r := H
              have A27 := Aside0.mk A270
              clear A270
              by_cases c28 : t245 = (l0_1.length : Int)
              · rw [if_pos c28] at H
                have c28b0 : (t245 == (l0_1.length : Int)) = true := beq_iff_eq.mpr c28
                have c28b1 : (t245 != (l0_1.length : Int)) = false := bne_eq_false_iff_eq.mpr c28
                clear c28
                (first | rw [c28b0] | (simp only [i64_w, i32_w]; rw [c28b0]) | skip)
                replace H := Option.bind_eq_some_iff.mp H
                obtain ⟨t246, A290, H⟩ := H
                replace H : ((athanorlaw20_total.f kj2 l0_0 l0_1).bind fun t247 => (athanorlaw20_ChainLeast.j1 kj2 a1 t237 t238 (t246 != t247) l0_0 l0_1)) = some r := H
                have A29 := Aside0.mk A290
                clear A290
                replace H := Option.bind_eq_some_iff.mp H
                obtain ⟨t247, A300, H⟩ := H
                replace H : (athanorlaw20_ChainLeast.j1 kj2 a1 t237 t238 (t246 != t247) l0_0 l0_1) = some r := H
                have A30 := Aside0.mk A300
                clear A300
                have H' := Aside0.mk H
                clear H
                try go_wp2
                have n0_ := Aside0.mk (blk_drew BK235.out)
                have n1_ := Aside0.mk (below_drew1 HB.out)
                clear BK235
                clear HB
                have BK235 := n0_
                have HB := n1_
                clear n0_ n1_
                refine start_ (n := 18) (S := fun w' => w'.cell? ⟨gb235, 0, none⟩ = some (.slice A0_0 l0_0.length c0_0) ∧ w'.cell? ⟨gb235, 1, none⟩ = some (.slice A0_1 l0_1.length c0_1)) (ds := []) #[false, false, false, false, false, false, false, false, false, false, false, false, false, false, false, false, false, false] (by kernel_rfl) rfl rfl ⟨(blk_cell BK235.out 0).trans rfl, (blk_cell BK235.out 1).trans rfl⟩ (fun hHeld => ?_); refine with_tabW athanorlaw20_ChainLeast.tab6 athanorlaw20_ChainLeast.bits6 (fun HT_ HW_ => ?_)
                generalize w24.drew = w31 at BK235 HB hHeld ⊢
                refine take_ (i := 0) (N := some 64) (v := ?_) (a' := ?_) #[true, false, false, false, false, false, false, false, false, false, false, false, false, false, false, false, false, false] rfl rfl (take_ofW HT_.out HW_.out (by kernel_rfl)) (fun _ _ _ h => h) (Or.inl ⟨by rfl, ?_⟩) hHeld ?_ ?_
                rotate_left
                · rintro w' ⟨s0, s1⟩
                  go_simp
                  with_reducible rfl
                rotate_left
                · simp only [Act.put, List.setIfInBounds_toArray, List.set_cons_zero, List.set_cons_succ, i64_w, i32_w]
                  rfl
                refine one_ (i := 1) (N := some 65) #[true, true, false, false, false, false, false, false, false, false, false, false, false, false, false, false, false, false] rfl rfl (one_of HT_.out (by kernel_rfl)) (by decide) (fun K hK => ?_)
                refine goes_ Try.func17 (by kernel_rfl) rfl #[.agg #[.slice A0_0 l0_0.length c0_0, .slice A0_1 l0_1.length c0_1]] (by rfl) rfl rfl (by (try simp only [List.map_toArray, List.map_cons, List.map_nil]); first | done | rfl | (simp only [List.length_drop, List.length_take]; rfl)) ?_
                with_reducible refine (chain_Chain_Right.calls _ _ l0_0 _ _ l0_1 true _ ?side1 ?side2 ?side3 ?side4 A25.out).mono ?_
                (case side1 => repeat (first | exact (Kd.C_below HR0_0.out HB.out) | (with_reducible refine Kd.C_alloc ?_ _) | (with_reducible refine Kd.C_drewN ?_ _) | (with_reducible refine Kd.C_drew ?_)))
                (case side2 => exact HC0_0.out)
                (case side3 => repeat (first | exact (Kd.C_below HR0_1.out HB.out) | (with_reducible refine Kd.C_alloc ?_ _) | (with_reducible refine Kd.C_drewN ?_ _) | (with_reducible refine Kd.C_drew ?_)))
                (case side4 => exact HC0_1.out)
                rintro e w32 ⟨rfl, hb⟩
                refine ⟨_, rfl, ?_⟩
                have n0_ := Aside0.mk (blk_below (g := gb235) (o := .cells #[.slice A0_0 l0_0.length c0_0, .slice A0_1 l0_1.length c0_1] 24 (0, 0)) (by (with_reducible repeat (first | refine blk_drewN ?_ _ | refine blk_drew ?_ | refine blk_alloc ?_ _)); exact BK235.out) hb)
                have n1_ := Aside0.mk (below_step (by repeat (first | (with_reducible first | exact HB.out | apply below_alloc | apply pw_below_drewN | apply below_drew1 | refine below_set ?_ GE235.out) | exact HB.out)) hb)
                clear BK235
                clear HB
                have BK235 := n0_
                have HB := n1_
                clear n0_ n1_
                (try clear hb)
                (try clear hb2)
                (try clear hk)
                (try clear hi)
                refine hK.out _ _ ⟨(blk_cell BK235.out 0).trans rfl, (blk_cell BK235.out 1).trans rfl⟩ (fun hHeld => ?_)
                clear hK K
                refine norm_ (a' := ?_) ?_ ?_
                rotate_left
                · show Act.put _ (some 65) _ = _
                  simp only [Act.put, List.setIfInBounds_toArray, List.set_cons_zero, List.set_cons_succ, i64_w, i32_w]
                  rfl
                refine pure_ (i := 2) (N := some 66) (v := ?_) (a' := ?_) #[true, true, true, false, false, false, false, false, false, false, false, false, false, false, false, false, false, false] rfl rfl (any_of HT_.out (by kernel_rfl)) (fun _ _ _ h => h) (Or.inl ⟨by rfl, ?_⟩) ?_ ?_
                rotate_left
                · intro w'
                  go_simp
                  with_reducible rfl
                rotate_left
                · simp only [Act.put, List.setIfInBounds_toArray, List.set_cons_zero, List.set_cons_succ, i64_w, i32_w]
                  rfl
                refine pure_ (i := 3) (N := some 67) (v := ?_) (a' := ?_) #[true, true, true, true, false, false, false, false, false, false, false, false, false, false, false, false, false, false] rfl rfl (any_of HT_.out (by kernel_rfl)) (fun _ _ _ h => h) (Or.inl ⟨by rfl, ?_⟩) ?_ ?_
                rotate_left
                · intro w'
                  go_simp
                  with_reducible rfl
                rotate_left
                · simp only [Act.put, List.setIfInBounds_toArray, List.set_cons_zero, List.set_cons_succ, i64_w, i32_w]
                  rfl
                refine pure_ (i := 6) (N := some 70) (v := ?_) (a' := ?_) #[true, true, true, true, false, false, true, false, false, false, false, false, false, false, false, false, false, false] rfl rfl (any_of HT_.out (by kernel_rfl)) (fun _ _ _ h => h) (Or.inl ⟨by rfl, ?_⟩) ?_ ?_
                rotate_left
                · intro w'
                  go_simp
                  with_reducible rfl
                rotate_left
                · simp only [Act.put, List.setIfInBounds_toArray, List.set_cons_zero, List.set_cons_succ, i64_w, i32_w]
                  rfl
                refine take_ (i := 4) (N := some 68) (v := ?_) (a' := ?_) #[true, true, true, true, true, false, true, false, false, false, false, false, false, false, false, false, false, false] rfl rfl (take_ofW HT_.out HW_.out (by kernel_rfl)) (fun _ _ _ h => h) (Or.inl ⟨by rfl, ?_⟩) hHeld ?_ ?_
                rotate_left
                · rintro w' ⟨s0, s1⟩
                  go_simp
                  with_reducible rfl
                rotate_left
                · simp only [Act.put, List.setIfInBounds_toArray, List.set_cons_zero, List.set_cons_succ, i64_w, i32_w]
                  rfl
                refine take_ (i := 7) (N := some 71) (v := ?_) (a' := ?_) #[true, true, true, true, true, false, true, true, false, false, false, false, false, false, false, false, false, false] rfl rfl (take_ofW HT_.out HW_.out (by kernel_rfl)) (fun _ _ _ h => h) (Or.inl ⟨by rfl, ?_⟩) hHeld ?_ ?_
                rotate_left
                · rintro w' ⟨s0, s1⟩
                  go_simp
                  with_reducible rfl
                rotate_left
                · simp only [Act.put, List.setIfInBounds_toArray, List.set_cons_zero, List.set_cons_succ, i64_w, i32_w]
                  rfl
                refine pure_ (i := 8) (N := some 72) (v := ?_) (a' := ?_) #[true, true, true, true, true, false, true, true, true, false, false, false, false, false, false, false, false, false] rfl rfl (any_of HT_.out (by kernel_rfl)) (fun _ _ _ h => h) (Or.inl ⟨by rfl, ?_⟩) ?_ ?_
                rotate_left
                · intro w'
                  go_simp
                  with_reducible rfl
                rotate_left
                · simp only [Act.put, List.setIfInBounds_toArray, List.set_cons_zero, List.set_cons_succ, i64_w, i32_w]
                  rfl
                refine one_ (i := 5) (N := some 69) #[true, true, true, true, true, true, true, true, true, false, false, false, false, false, false, false, false, false] rfl rfl (one_of HT_.out (by kernel_rfl)) (by decide) (fun K hK => ?_)
                refine goes_ Try.func18 (by kernel_rfl) rfl #[.agg #[.slice A0_0 l0_0.length c0_0, .slice A0_1 l0_1.length c0_1]] (by rfl) rfl rfl (by (try simp only [List.map_toArray, List.map_cons, List.map_nil]); first | done | rfl | (simp only [List.length_drop, List.length_take]; rfl)) ?_
                with_reducible refine (chain_Chain_Nodes.calls _ _ l0_0 _ _ l0_1 t245 _ ?side1 ?side2 ?side3 ?side4 A27.out).mono ?_
                (case side1 => repeat (first | exact (Kd.C_below HR0_0.out HB.out) | (with_reducible refine Kd.C_alloc ?_ _) | (with_reducible refine Kd.C_drewN ?_ _) | (with_reducible refine Kd.C_drew ?_)))
                (case side2 => exact HC0_0.out)
                (case side3 => repeat (first | exact (Kd.C_below HR0_1.out HB.out) | (with_reducible refine Kd.C_alloc ?_ _) | (with_reducible refine Kd.C_drewN ?_ _) | (with_reducible refine Kd.C_drew ?_)))
                (case side4 => exact HC0_1.out)
                rintro e w33 ⟨rfl, hb⟩
                refine ⟨_, rfl, ?_⟩
                have n0_ := Aside0.mk (blk_below (g := gb235) (o := .cells #[.slice A0_0 l0_0.length c0_0, .slice A0_1 l0_1.length c0_1] 24 (0, 0)) (by (with_reducible repeat (first | refine blk_drewN ?_ _ | refine blk_drew ?_ | refine blk_alloc ?_ _)); exact BK235.out) hb)
                have n1_ := Aside0.mk (below_step (by repeat (first | (with_reducible first | exact HB.out | apply below_alloc | apply pw_below_drewN | apply below_drew1 | refine below_set ?_ GE235.out) | exact HB.out)) hb)
                clear BK235
                clear HB
                have BK235 := n0_
                have HB := n1_
                clear n0_ n1_
                (try clear hb)
                (try clear hb2)
                (try clear hk)
                (try clear hi)
                refine hK.out _ _ ⟨(blk_cell BK235.out 0).trans rfl, (blk_cell BK235.out 1).trans rfl⟩ (fun hHeld => ?_)
                clear hK K
                refine norm_ (a' := ?_) ?_ ?_
                rotate_left
                · show Act.put _ (some 69) _ = _
                  simp only [Act.put, List.setIfInBounds_toArray, List.set_cons_zero, List.set_cons_succ, i64_w, i32_w]
                  rfl
                refine pure_ (i := 9) (N := some 73) (v := ?_) (a' := ?_) #[true, true, true, true, true, true, true, true, true, true, false, false, false, false, false, false, false, false] rfl rfl (any_of HT_.out (by kernel_rfl)) (fun _ _ _ h => h) (Or.inl ⟨by rfl, ?_⟩) ?_ ?_
                rotate_left
                · intro w'
                  go_simp
                  with_reducible rfl
                rotate_left
                · simp only [Act.put, List.setIfInBounds_toArray, List.set_cons_zero, List.set_cons_succ, i64_w, i32_w]
                  rfl
                refine pure_ (i := 10) (N := some 74) (v := ?_) (a' := ?_) #[true, true, true, true, true, true, true, true, true, true, true, false, false, false, false, false, false, false] rfl rfl (any_of HT_.out (by kernel_rfl)) (fun _ _ _ h => h) (Or.inl ⟨by rfl, ?_⟩) ?_ ?_
                rotate_left
                · intro w'
                  go_simp
                  with_reducible rfl
                rotate_left
                · simp only [Act.put, List.setIfInBounds_toArray, List.set_cons_zero, List.set_cons_succ, i64_w, i32_w]
                  rfl
                refine pure_ (i := 11) (N := some 75) (v := ?_) (a' := ?_) #[true, true, true, true, true, true, true, true, true, true, true, true, false, false, false, false, false, false] rfl rfl (any_of HT_.out (by kernel_rfl)) (fun _ _ _ h => h) (Or.inl ⟨by rfl, ?_⟩) ?_ ?_
                rotate_left
                · intro w'
                  go_simp
                  with_reducible rfl
                rotate_left
                · simp only [Act.put, List.setIfInBounds_toArray, List.set_cons_zero, List.set_cons_succ, i64_w, i32_w]
                  rfl
                refine take_ (i := 12) (N := some 76) (v := ?_) (a' := ?_) #[true, true, true, true, true, true, true, true, true, true, true, true, true, false, false, false, false, false] rfl rfl (take_ofW HT_.out HW_.out (by kernel_rfl)) (fun _ _ _ h => h) (Or.inl ⟨by rfl, ?_⟩) hHeld ?_ ?_
                rotate_left
                · rintro w' ⟨s0, s1⟩
                  go_simp
                  with_reducible rfl
                rotate_left
                · simp only [Act.put, List.setIfInBounds_toArray, List.set_cons_zero, List.set_cons_succ, i64_w, i32_w]
                  rfl
                refine take_ (i := 14) (N := some 78) (v := ?_) (a' := ?_) #[true, true, true, true, true, true, true, true, true, true, true, true, true, false, true, false, false, false] rfl rfl (take_ofW HT_.out HW_.out (by kernel_rfl)) (fun _ _ _ h => h) (Or.inl ⟨by rfl, ?_⟩) hHeld ?_ ?_
                rotate_left
                · rintro w' ⟨s0, s1⟩
                  go_simp
                  with_reducible rfl
                rotate_left
                · simp only [Act.put, List.setIfInBounds_toArray, List.set_cons_zero, List.set_cons_succ, i64_w, i32_w]
                  rfl
                refine one_ (i := 13) (N := some 77) #[true, true, true, true, true, true, true, true, true, true, true, true, true, true, true, false, false, false] rfl rfl (one_of HT_.out (by kernel_rfl)) (by decide) (fun K hK => ?_)
                refine goes_ Try.func19 (by kernel_rfl) rfl #[.agg #[.slice A0_0 l0_0.length c0_0, .slice A0_1 l0_1.length c0_1]] (by rfl) rfl rfl (by (try simp only [List.map_toArray, List.map_cons, List.map_nil]); first | done | rfl | (simp only [List.length_drop, List.length_take]; rfl)) ?_
                with_reducible refine (chain_Chain_Total.calls kj2 _ _ l0_0 _ _ l0_1 t246 _ ?side1 ?side2 ?side3 ?side4 A29.out).mono ?_
                (case side1 => repeat (first | exact (Kd.C_below HR0_0.out HB.out) | (with_reducible refine Kd.C_alloc ?_ _) | (with_reducible refine Kd.C_drewN ?_ _) | (with_reducible refine Kd.C_drew ?_)))
                (case side2 => exact HC0_0.out)
                (case side3 => repeat (first | exact (Kd.C_below HR0_1.out HB.out) | (with_reducible refine Kd.C_alloc ?_ _) | (with_reducible refine Kd.C_drewN ?_ _) | (with_reducible refine Kd.C_drew ?_)))
                (case side4 => exact HC0_1.out)
                rintro e w34 ⟨rfl, hb⟩
                refine ⟨_, rfl, ?_⟩
                have n0_ := Aside0.mk (blk_below (g := gb235) (o := .cells #[.slice A0_0 l0_0.length c0_0, .slice A0_1 l0_1.length c0_1] 24 (0, 0)) (by (with_reducible repeat (first | refine blk_drewN ?_ _ | refine blk_drew ?_ | refine blk_alloc ?_ _)); exact BK235.out) hb)
                have n1_ := Aside0.mk (below_step (by repeat (first | (with_reducible first | exact HB.out | apply below_alloc | apply pw_below_drewN | apply below_drew1 | refine below_set ?_ GE235.out) | exact HB.out)) hb)
                clear BK235
                clear HB
                have BK235 := n0_
                have HB := n1_
                clear n0_ n1_
                (try clear hb)
                (try clear hb2)
                (try clear hk)
                (try clear hi)
                refine hK.out _ _ ⟨(blk_cell BK235.out 0).trans rfl, (blk_cell BK235.out 1).trans rfl⟩ (fun hHeld => ?_)
                clear hK K
                refine norm_ (a' := ?_) ?_ ?_
                rotate_left
                · show Act.put _ (some 77) _ = _
                  simp only [Act.put, List.setIfInBounds_toArray, List.set_cons_zero, List.set_cons_succ, i64_w, i32_w]
                  rfl
                refine one_ (i := 15) (N := some 79) #[true, true, true, true, true, true, true, true, true, true, true, true, true, true, true, true, false, false] rfl rfl (one_of HT_.out (by kernel_rfl)) (by decide) (fun K hK => ?_)
                refine goes_ Try.func15 (by kernel_rfl) rfl #[.agg #[.slice A0_0 l0_0.length c0_0, .slice A0_1 l0_1.length c0_1]] (by rfl) rfl rfl (by (try simp only [List.map_toArray, List.map_cons, List.map_nil]); first | done | rfl | (simp only [List.length_drop, List.length_take]; rfl)) ?_
                with_reducible refine (athanorlaw20_total.calls kj2 _ _ l0_0 _ _ l0_1 t247 _ ?side1 ?side2 ?side3 ?side4 A30.out).mono ?_
                (case side1 => repeat (first | exact (Kd.C_below HR0_0.out HB.out) | (with_reducible refine Kd.C_alloc ?_ _) | (with_reducible refine Kd.C_drewN ?_ _) | (with_reducible refine Kd.C_drew ?_)))
                (case side2 => exact HC0_0.out)
                (case side3 => repeat (first | exact (Kd.C_below HR0_1.out HB.out) | (with_reducible refine Kd.C_alloc ?_ _) | (with_reducible refine Kd.C_drewN ?_ _) | (with_reducible refine Kd.C_drew ?_)))
                (case side4 => exact HC0_1.out)
                rintro e w35 ⟨rfl, hb⟩
                refine ⟨_, rfl, ?_⟩
                have n0_ := Aside0.mk (blk_below (g := gb235) (o := .cells #[.slice A0_0 l0_0.length c0_0, .slice A0_1 l0_1.length c0_1] 24 (0, 0)) (by (with_reducible repeat (first | refine blk_drewN ?_ _ | refine blk_drew ?_ | refine blk_alloc ?_ _)); exact BK235.out) hb)
                have n1_ := Aside0.mk (below_step (by repeat (first | (with_reducible first | exact HB.out | apply below_alloc | apply pw_below_drewN | apply below_drew1 | refine below_set ?_ GE235.out) | exact HB.out)) hb)
                clear BK235
                clear HB
                have BK235 := n0_
                have HB := n1_
                clear n0_ n1_
                (try clear hb)
                (try clear hb2)
                (try clear hk)
                (try clear hi)
                refine hK.out _ _ ⟨(blk_cell BK235.out 0).trans rfl, (blk_cell BK235.out 1).trans rfl⟩ (fun hHeld => ?_)
                clear hK K
                refine norm_ (a' := ?_) ?_ ?_
                rotate_left
                · show Act.put _ (some 79) _ = _
                  simp only [Act.put, List.setIfInBounds_toArray, List.set_cons_zero, List.set_cons_succ, i64_w, i32_w]
                  rfl
                refine pure_ (i := 16) (N := some 80) (v := ?_) (a' := ?_) #[true, true, true, true, true, true, true, true, true, true, true, true, true, true, true, true, true, false] rfl rfl (any_of HT_.out (by kernel_rfl)) (fun _ _ _ h => h) (Or.inl ⟨by rfl, ?_⟩) ?_ ?_
                rotate_left
                · intro w'
                  go_simp
                  with_reducible rfl
                rotate_left
                · simp only [Act.put, List.setIfInBounds_toArray, List.set_cons_zero, List.set_cons_succ, i64_w, i32_w]
                  rfl
                refine pure_ (i := 17) (N := some 81) (v := ?_) (a' := ?_) #[true, true, true, true, true, true, true, true, true, true, true, true, true, true, true, true, true, true] rfl rfl (any_of HT_.out (by kernel_rfl)) (fun _ _ _ h => h) (Or.inl ⟨by rfl, ?_⟩) ?_ ?_
                rotate_left
                · intro w'
                  go_simp
                  with_reducible rfl
                rotate_left
                · simp only [Act.put, List.setIfInBounds_toArray, List.set_cons_zero, List.set_cons_succ, i64_w, i32_w]
                  rfl
                refine done_ (done_of HT_.out (by kernel_rfl)) ?_
                try go_wp2
                go_meet
                case rel => exact ⟨_, ((t246 != t247)), (by first | rfl | (simp; done) | (simp [*]; done)), H', ⟨by have := HJ2.out; first | omega | exact Nat.le_refl _⟩, ⟨by (with_reducible repeat (first | refine blk_drewN ?_ _ | refine blk_drew ?_ | refine blk_alloc ?_ _)); exact BK235.out⟩, ⟨by repeat (first | (with_reducible first | exact HB.out | apply below_alloc | apply pw_below_drewN | apply below_drew1 | refine below_set ?_ GE235.out) | exact HB.out)⟩⟩
              · rw [if_neg c28] at H
                have c28b0 : (t245 == (l0_1.length : Int)) = false := beq_eq_false_iff_ne.mpr c28
                have c28b1 : (t245 != (l0_1.length : Int)) = true := bne_iff_ne.mpr c28
                (first | rw [c28b0] | (simp only [i64_w, i32_w]; rw [c28b0]) | skip)
                have H' := Aside0.mk H
                clear H
                try go_wp2
                have n0_ := Aside0.mk (blk_drew BK235.out)
                have n1_ := Aside0.mk (below_drew1 HB.out)
                clear BK235
                clear HB
                have BK235 := n0_
                have HB := n1_
                clear n0_ n1_
                refine start_ (n := 18) (S := fun w' => w'.cell? ⟨gb235, 0, none⟩ = some (.slice A0_0 l0_0.length c0_0) ∧ w'.cell? ⟨gb235, 1, none⟩ = some (.slice A0_1 l0_1.length c0_1)) (ds := []) #[false, false, false, false, false, false, false, false, false, false, false, false, false, false, false, false, false, false] (by kernel_rfl) rfl rfl ⟨(blk_cell BK235.out 0).trans rfl, (blk_cell BK235.out 1).trans rfl⟩ (fun hHeld => ?_); refine with_tabW athanorlaw20_ChainLeast.tab6 athanorlaw20_ChainLeast.bits6 (fun HT_ HW_ => ?_)
                generalize w24.drew = w36 at BK235 HB hHeld ⊢
                refine take_ (i := 0) (N := some 64) (v := ?_) (a' := ?_) #[true, false, false, false, false, false, false, false, false, false, false, false, false, false, false, false, false, false] rfl rfl (take_ofW HT_.out HW_.out (by kernel_rfl)) (fun _ _ _ h => h) (Or.inl ⟨by rfl, ?_⟩) hHeld ?_ ?_
                rotate_left
                · rintro w' ⟨s0, s1⟩
                  go_simp
                  with_reducible rfl
                rotate_left
                · simp only [Act.put, List.setIfInBounds_toArray, List.set_cons_zero, List.set_cons_succ, i64_w, i32_w]
                  rfl
                refine one_ (i := 1) (N := some 65) #[true, true, false, false, false, false, false, false, false, false, false, false, false, false, false, false, false, false] rfl rfl (one_of HT_.out (by kernel_rfl)) (by decide) (fun K hK => ?_)
                refine goes_ Try.func17 (by kernel_rfl) rfl #[.agg #[.slice A0_0 l0_0.length c0_0, .slice A0_1 l0_1.length c0_1]] (by rfl) rfl rfl (by (try simp only [List.map_toArray, List.map_cons, List.map_nil]); first | done | rfl | (simp only [List.length_drop, List.length_take]; rfl)) ?_
                with_reducible refine (chain_Chain_Right.calls _ _ l0_0 _ _ l0_1 true _ ?side1 ?side2 ?side3 ?side4 A25.out).mono ?_
                (case side1 => repeat (first | exact (Kd.C_below HR0_0.out HB.out) | (with_reducible refine Kd.C_alloc ?_ _) | (with_reducible refine Kd.C_drewN ?_ _) | (with_reducible refine Kd.C_drew ?_)))
                (case side2 => exact HC0_0.out)
                (case side3 => repeat (first | exact (Kd.C_below HR0_1.out HB.out) | (with_reducible refine Kd.C_alloc ?_ _) | (with_reducible refine Kd.C_drewN ?_ _) | (with_reducible refine Kd.C_drew ?_)))
                (case side4 => exact HC0_1.out)
                rintro e w37 ⟨rfl, hb⟩
                refine ⟨_, rfl, ?_⟩
                have n0_ := Aside0.mk (blk_below (g := gb235) (o := .cells #[.slice A0_0 l0_0.length c0_0, .slice A0_1 l0_1.length c0_1] 24 (0, 0)) (by (with_reducible repeat (first | refine blk_drewN ?_ _ | refine blk_drew ?_ | refine blk_alloc ?_ _)); exact BK235.out) hb)
                have n1_ := Aside0.mk (below_step (by repeat (first | (with_reducible first | exact HB.out | apply below_alloc | apply pw_below_drewN | apply below_drew1 | refine below_set ?_ GE235.out) | exact HB.out)) hb)
                clear BK235
                clear HB
                have BK235 := n0_
                have HB := n1_
                clear n0_ n1_
                (try clear hb)
                (try clear hb2)
                (try clear hk)
                (try clear hi)
                refine hK.out _ _ ⟨(blk_cell BK235.out 0).trans rfl, (blk_cell BK235.out 1).trans rfl⟩ (fun hHeld => ?_)
                clear hK K
                refine norm_ (a' := ?_) ?_ ?_
                rotate_left
                · show Act.put _ (some 65) _ = _
                  simp only [Act.put, List.setIfInBounds_toArray, List.set_cons_zero, List.set_cons_succ, i64_w, i32_w]
                  rfl
                refine pure_ (i := 2) (N := some 66) (v := ?_) (a' := ?_) #[true, true, true, false, false, false, false, false, false, false, false, false, false, false, false, false, false, false] rfl rfl (any_of HT_.out (by kernel_rfl)) (fun _ _ _ h => h) (Or.inl ⟨by rfl, ?_⟩) ?_ ?_
                rotate_left
                · intro w'
                  go_simp
                  with_reducible rfl
                rotate_left
                · simp only [Act.put, List.setIfInBounds_toArray, List.set_cons_zero, List.set_cons_succ, i64_w, i32_w]
                  rfl
                refine pure_ (i := 3) (N := some 67) (v := ?_) (a' := ?_) #[true, true, true, true, false, false, false, false, false, false, false, false, false, false, false, false, false, false] rfl rfl (any_of HT_.out (by kernel_rfl)) (fun _ _ _ h => h) (Or.inl ⟨by rfl, ?_⟩) ?_ ?_
                rotate_left
                · intro w'
                  go_simp
                  with_reducible rfl
                rotate_left
                · simp only [Act.put, List.setIfInBounds_toArray, List.set_cons_zero, List.set_cons_succ, i64_w, i32_w]
                  rfl
                refine pure_ (i := 6) (N := some 70) (v := ?_) (a' := ?_) #[true, true, true, true, false, false, true, false, false, false, false, false, false, false, false, false, false, false] rfl rfl (any_of HT_.out (by kernel_rfl)) (fun _ _ _ h => h) (Or.inl ⟨by rfl, ?_⟩) ?_ ?_
                rotate_left
                · intro w'
                  go_simp
                  with_reducible rfl
                rotate_left
                · simp only [Act.put, List.setIfInBounds_toArray, List.set_cons_zero, List.set_cons_succ, i64_w, i32_w]
                  rfl
                refine take_ (i := 4) (N := some 68) (v := ?_) (a' := ?_) #[true, true, true, true, true, false, true, false, false, false, false, false, false, false, false, false, false, false] rfl rfl (take_ofW HT_.out HW_.out (by kernel_rfl)) (fun _ _ _ h => h) (Or.inl ⟨by rfl, ?_⟩) hHeld ?_ ?_
                rotate_left
                · rintro w' ⟨s0, s1⟩
                  go_simp
                  with_reducible rfl
                rotate_left
                · simp only [Act.put, List.setIfInBounds_toArray, List.set_cons_zero, List.set_cons_succ, i64_w, i32_w]
                  rfl
                refine take_ (i := 7) (N := some 71) (v := ?_) (a' := ?_) #[true, true, true, true, true, false, true, true, false, false, false, false, false, false, false, false, false, false] rfl rfl (take_ofW HT_.out HW_.out (by kernel_rfl)) (fun _ _ _ h => h) (Or.inl ⟨by rfl, ?_⟩) hHeld ?_ ?_
                rotate_left
                · rintro w' ⟨s0, s1⟩
                  go_simp
                  with_reducible rfl
                rotate_left
                · simp only [Act.put, List.setIfInBounds_toArray, List.set_cons_zero, List.set_cons_succ, i64_w, i32_w]
                  rfl
                refine pure_ (i := 8) (N := some 72) (v := ?_) (a' := ?_) #[true, true, true, true, true, false, true, true, true, false, false, false, false, false, false, false, false, false] rfl rfl (any_of HT_.out (by kernel_rfl)) (fun _ _ _ h => h) (Or.inl ⟨by rfl, ?_⟩) ?_ ?_
                rotate_left
                · intro w'
                  go_simp
                  with_reducible rfl
                rotate_left
                · simp only [Act.put, List.setIfInBounds_toArray, List.set_cons_zero, List.set_cons_succ, i64_w, i32_w]
                  rfl
                refine one_ (i := 5) (N := some 69) #[true, true, true, true, true, true, true, true, true, false, false, false, false, false, false, false, false, false] rfl rfl (one_of HT_.out (by kernel_rfl)) (by decide) (fun K hK => ?_)
                refine goes_ Try.func18 (by kernel_rfl) rfl #[.agg #[.slice A0_0 l0_0.length c0_0, .slice A0_1 l0_1.length c0_1]] (by rfl) rfl rfl (by (try simp only [List.map_toArray, List.map_cons, List.map_nil]); first | done | rfl | (simp only [List.length_drop, List.length_take]; rfl)) ?_
                with_reducible refine (chain_Chain_Nodes.calls _ _ l0_0 _ _ l0_1 t245 _ ?side1 ?side2 ?side3 ?side4 A27.out).mono ?_
                (case side1 => repeat (first | exact (Kd.C_below HR0_0.out HB.out) | (with_reducible refine Kd.C_alloc ?_ _) | (with_reducible refine Kd.C_drewN ?_ _) | (with_reducible refine Kd.C_drew ?_)))
                (case side2 => exact HC0_0.out)
                (case side3 => repeat (first | exact (Kd.C_below HR0_1.out HB.out) | (with_reducible refine Kd.C_alloc ?_ _) | (with_reducible refine Kd.C_drewN ?_ _) | (with_reducible refine Kd.C_drew ?_)))
                (case side4 => exact HC0_1.out)
                rintro e w38 ⟨rfl, hb⟩
                refine ⟨_, rfl, ?_⟩
                have n0_ := Aside0.mk (blk_below (g := gb235) (o := .cells #[.slice A0_0 l0_0.length c0_0, .slice A0_1 l0_1.length c0_1] 24 (0, 0)) (by (with_reducible repeat (first | refine blk_drewN ?_ _ | refine blk_drew ?_ | refine blk_alloc ?_ _)); exact BK235.out) hb)
                have n1_ := Aside0.mk (below_step (by repeat (first | (with_reducible first | exact HB.out | apply below_alloc | apply pw_below_drewN | apply below_drew1 | refine below_set ?_ GE235.out) | exact HB.out)) hb)
                clear BK235
                clear HB
                have BK235 := n0_
                have HB := n1_
                clear n0_ n1_
                (try clear hb)
                (try clear hb2)
                (try clear hk)
                (try clear hi)
                refine hK.out _ _ ⟨(blk_cell BK235.out 0).trans rfl, (blk_cell BK235.out 1).trans rfl⟩ (fun hHeld => ?_)
                clear hK K
                refine norm_ (a' := ?_) ?_ ?_
                rotate_left
                · show Act.put _ (some 69) _ = _
                  simp only [Act.put, List.setIfInBounds_toArray, List.set_cons_zero, List.set_cons_succ, i64_w, i32_w]
                  rfl
                refine pure_ (i := 9) (N := some 73) (v := ?_) (a' := ?_) #[true, true, true, true, true, true, true, true, true, true, false, false, false, false, false, false, false, false] rfl rfl (any_of HT_.out (by kernel_rfl)) (fun _ _ _ h => h) (Or.inl ⟨by rfl, ?_⟩) ?_ ?_
                rotate_left
                · intro w'
                  go_simp
                  with_reducible rfl
                rotate_left
                · simp only [Act.put, List.setIfInBounds_toArray, List.set_cons_zero, List.set_cons_succ, i64_w, i32_w]
                  rfl
                refine pure_ (i := 10) (N := some 74) (v := ?_) (a' := ?_) #[true, true, true, true, true, true, true, true, true, true, true, false, false, false, false, false, false, false] rfl rfl (any_of HT_.out (by kernel_rfl)) (fun _ _ _ h => h) (Or.inl ⟨by rfl, ?_⟩) ?_ ?_
                rotate_left
                · intro w'
                  go_simp
                  with_reducible rfl
                rotate_left
                · simp only [Act.put, List.setIfInBounds_toArray, List.set_cons_zero, List.set_cons_succ, i64_w, i32_w]
                  rfl
                refine pure_ (i := 11) (N := some 75) (v := ?_) (a' := ?_) #[true, true, true, true, true, true, true, true, true, true, true, true, false, false, false, false, false, false] rfl rfl (any_of HT_.out (by kernel_rfl)) (fun _ _ _ h => h) (Or.inl ⟨by rfl, ?_⟩) ?_ ?_
                rotate_left
                · intro w'
                  go_simp
                  with_reducible rfl
                rotate_left
                · simp only [Act.put, List.setIfInBounds_toArray, List.set_cons_zero, List.set_cons_succ, i64_w, i32_w]
                  rfl
                refine pure_ (i := 12) (N := some 76) (v := undef) (a' := ?_) #[true, true, true, true, true, true, true, true, true, true, true, true, true, false, false, false, false, false] rfl rfl (any_of HT_.out (by kernel_rfl)) (fun _ _ _ h => h) (Or.inr ⟨by rfl, rfl⟩) ?_ ?_
                rotate_left
                · simp only [Act.put, List.setIfInBounds_toArray, List.set_cons_zero, List.set_cons_succ, i64_w, i32_w]
                  rfl
                refine pure_ (i := 13) (N := some 77) (v := undef) (a' := ?_) #[true, true, true, true, true, true, true, true, true, true, true, true, true, true, false, false, false, false] rfl rfl (any_of HT_.out (by kernel_rfl)) (fun _ _ _ h => h) (Or.inr ⟨by rfl, rfl⟩) ?_ ?_
                rotate_left
                · simp only [Act.put, List.setIfInBounds_toArray, List.set_cons_zero, List.set_cons_succ, i64_w, i32_w]
                  rfl
                refine pure_ (i := 14) (N := some 78) (v := undef) (a' := ?_) #[true, true, true, true, true, true, true, true, true, true, true, true, true, true, true, false, false, false] rfl rfl (any_of HT_.out (by kernel_rfl)) (fun _ _ _ h => h) (Or.inr ⟨by rfl, rfl⟩) ?_ ?_
                rotate_left
                · simp only [Act.put, List.setIfInBounds_toArray, List.set_cons_zero, List.set_cons_succ, i64_w, i32_w]
                  rfl
                refine pure_ (i := 15) (N := some 79) (v := undef) (a' := ?_) #[true, true, true, true, true, true, true, true, true, true, true, true, true, true, true, true, false, false] rfl rfl (any_of HT_.out (by kernel_rfl)) (fun _ _ _ h => h) (Or.inr ⟨by rfl, rfl⟩) ?_ ?_
                rotate_left
                · simp only [Act.put, List.setIfInBounds_toArray, List.set_cons_zero, List.set_cons_succ, i64_w, i32_w]
                  rfl
                refine pure_ (i := 16) (N := some 80) (v := undef) (a' := ?_) #[true, true, true, true, true, true, true, true, true, true, true, true, true, true, true, true, true, false] rfl rfl (any_of HT_.out (by kernel_rfl)) (fun _ _ _ h => h) (Or.inr ⟨by rfl, rfl⟩) ?_ ?_
                rotate_left
                · simp only [Act.put, List.setIfInBounds_toArray, List.set_cons_zero, List.set_cons_succ, i64_w, i32_w]
                  rfl
                refine pure_ (i := 17) (N := some 81) (v := ?_) (a' := ?_) #[true, true, true, true, true, true, true, true, true, true, true, true, true, true, true, true, true, true] rfl rfl (any_of HT_.out (by kernel_rfl)) (fun _ _ _ h => h) (Or.inl ⟨by rfl, ?_⟩) ?_ ?_
                rotate_left
                · intro w'
                  go_simp
                  with_reducible rfl
                rotate_left
                · simp only [Act.put, List.setIfInBounds_toArray, List.set_cons_zero, List.set_cons_succ, i64_w, i32_w]
                  rfl
                refine done_ (done_of HT_.out (by kernel_rfl)) ?_
                try go_wp2
                go_meet
                case rel => exact ⟨_, (true), (by first | rfl | (simp; done) | (simp [*]; done)), H', ⟨by have := HJ2.out; first | omega | exact Nat.le_refl _⟩, ⟨by (with_reducible repeat (first | refine blk_drewN ?_ _ | refine blk_drew ?_ | refine blk_alloc ?_ _)); exact BK235.out⟩, ⟨by repeat (first | (with_reducible first | exact HB.out | apply below_alloc | apply pw_below_drewN | apply below_drew1 | refine below_set ?_ GE235.out) | exact HB.out)⟩⟩
            · replace c26 := Bool.eq_false_iff.mpr c26
              subst c26
              have H1 : (athanorlaw20_ChainLeast.j1 kj2 a1 t237 t238 true l0_0 l0_1) = some r := by rw [if_neg (show ¬ (false = true) by decide)] at H; exact H
              clear H
              have H := H1
              clear H1
              have H' := Aside0.mk H
              clear H
              try go_wp2
              have n0_ := Aside0.mk (blk_drew BK235.out)
              have n1_ := Aside0.mk (below_drew1 HB.out)
              clear BK235
              clear HB
              have BK235 := n0_
              have HB := n1_
              clear n0_ n1_
              refine start_ (n := 18) (S := fun w' => w'.cell? ⟨gb235, 0, none⟩ = some (.slice A0_0 l0_0.length c0_0) ∧ w'.cell? ⟨gb235, 1, none⟩ = some (.slice A0_1 l0_1.length c0_1)) (ds := []) #[false, false, false, false, false, false, false, false, false, false, false, false, false, false, false, false, false, false] (by kernel_rfl) rfl rfl ⟨(blk_cell BK235.out 0).trans rfl, (blk_cell BK235.out 1).trans rfl⟩ (fun hHeld => ?_); refine with_tabW athanorlaw20_ChainLeast.tab6 athanorlaw20_ChainLeast.bits6 (fun HT_ HW_ => ?_)
              generalize w24.drew = w39 at BK235 HB hHeld ⊢
              refine take_ (i := 0) (N := some 64) (v := ?_) (a' := ?_) #[true, false, false, false, false, false, false, false, false, false, false, false, false, false, false, false, false, false] rfl rfl (take_ofW HT_.out HW_.out (by kernel_rfl)) (fun _ _ _ h => h) (Or.inl ⟨by rfl, ?_⟩) hHeld ?_ ?_
              rotate_left
              · rintro w' ⟨s0, s1⟩
                go_simp
                with_reducible rfl
              rotate_left
              · simp only [Act.put, List.setIfInBounds_toArray, List.set_cons_zero, List.set_cons_succ, i64_w, i32_w]
                rfl
              refine one_ (i := 1) (N := some 65) #[true, true, false, false, false, false, false, false, false, false, false, false, false, false, false, false, false, false] rfl rfl (one_of HT_.out (by kernel_rfl)) (by decide) (fun K hK => ?_)
              refine goes_ Try.func17 (by kernel_rfl) rfl #[.agg #[.slice A0_0 l0_0.length c0_0, .slice A0_1 l0_1.length c0_1]] (by rfl) rfl rfl (by (try simp only [List.map_toArray, List.map_cons, List.map_nil]); first | done | rfl | (simp only [List.length_drop, List.length_take]; rfl)) ?_
              with_reducible refine (chain_Chain_Right.calls _ _ l0_0 _ _ l0_1 false _ ?side1 ?side2 ?side3 ?side4 A25.out).mono ?_
              (case side1 => repeat (first | exact (Kd.C_below HR0_0.out HB.out) | (with_reducible refine Kd.C_alloc ?_ _) | (with_reducible refine Kd.C_drewN ?_ _) | (with_reducible refine Kd.C_drew ?_)))
              (case side2 => exact HC0_0.out)
              (case side3 => repeat (first | exact (Kd.C_below HR0_1.out HB.out) | (with_reducible refine Kd.C_alloc ?_ _) | (with_reducible refine Kd.C_drewN ?_ _) | (with_reducible refine Kd.C_drew ?_)))
              (case side4 => exact HC0_1.out)
              rintro e w40 ⟨rfl, hb⟩
              refine ⟨_, rfl, ?_⟩
              have n0_ := Aside0.mk (blk_below (g := gb235) (o := .cells #[.slice A0_0 l0_0.length c0_0, .slice A0_1 l0_1.length c0_1] 24 (0, 0)) (by (with_reducible repeat (first | refine blk_drewN ?_ _ | refine blk_drew ?_ | refine blk_alloc ?_ _)); exact BK235.out) hb)
              have n1_ := Aside0.mk (below_step (by repeat (first | (with_reducible first | exact HB.out | apply below_alloc | apply pw_below_drewN | apply below_drew1 | refine below_set ?_ GE235.out) | exact HB.out)) hb)
              clear BK235
              clear HB
              have BK235 := n0_
              have HB := n1_
              clear n0_ n1_
              (try clear hb)
              (try clear hb2)
              (try clear hk)
              (try clear hi)
              refine hK.out _ _ ⟨(blk_cell BK235.out 0).trans rfl, (blk_cell BK235.out 1).trans rfl⟩ (fun hHeld => ?_)
              clear hK K
              refine norm_ (a' := ?_) ?_ ?_
              rotate_left
              · show Act.put _ (some 65) _ = _
                simp only [Act.put, List.setIfInBounds_toArray, List.set_cons_zero, List.set_cons_succ, i64_w, i32_w]
                rfl
              refine pure_ (i := 2) (N := some 66) (v := ?_) (a' := ?_) #[true, true, true, false, false, false, false, false, false, false, false, false, false, false, false, false, false, false] rfl rfl (any_of HT_.out (by kernel_rfl)) (fun _ _ _ h => h) (Or.inl ⟨by rfl, ?_⟩) ?_ ?_
              rotate_left
              · intro w'
                go_simp
                with_reducible rfl
              rotate_left
              · simp only [Act.put, List.setIfInBounds_toArray, List.set_cons_zero, List.set_cons_succ, i64_w, i32_w]
                rfl
              refine pure_ (i := 3) (N := some 67) (v := ?_) (a' := ?_) #[true, true, true, true, false, false, false, false, false, false, false, false, false, false, false, false, false, false] rfl rfl (any_of HT_.out (by kernel_rfl)) (fun _ _ _ h => h) (Or.inl ⟨by rfl, ?_⟩) ?_ ?_
              rotate_left
              · intro w'
                go_simp
                with_reducible rfl
              rotate_left
              · simp only [Act.put, List.setIfInBounds_toArray, List.set_cons_zero, List.set_cons_succ, i64_w, i32_w]
                rfl
              refine pure_ (i := 4) (N := some 68) (v := undef) (a' := ?_) #[true, true, true, true, true, false, false, false, false, false, false, false, false, false, false, false, false, false] rfl rfl (any_of HT_.out (by kernel_rfl)) (fun _ _ _ h => h) (Or.inr ⟨by rfl, rfl⟩) ?_ ?_
              rotate_left
              · simp only [Act.put, List.setIfInBounds_toArray, List.set_cons_zero, List.set_cons_succ, i64_w, i32_w]
                rfl
              refine pure_ (i := 5) (N := some 69) (v := undef) (a' := ?_) #[true, true, true, true, true, true, false, false, false, false, false, false, false, false, false, false, false, false] rfl rfl (any_of HT_.out (by kernel_rfl)) (fun _ _ _ h => h) (Or.inr ⟨by rfl, rfl⟩) ?_ ?_
              rotate_left
              · simp only [Act.put, List.setIfInBounds_toArray, List.set_cons_zero, List.set_cons_succ, i64_w, i32_w]
                rfl
              refine pure_ (i := 6) (N := some 70) (v := undef) (a' := ?_) #[true, true, true, true, true, true, true, false, false, false, false, false, false, false, false, false, false, false] rfl rfl (any_of HT_.out (by kernel_rfl)) (fun _ _ _ h => h) (Or.inr ⟨by rfl, rfl⟩) ?_ ?_
              rotate_left
              · simp only [Act.put, List.setIfInBounds_toArray, List.set_cons_zero, List.set_cons_succ, i64_w, i32_w]
                rfl
              refine pure_ (i := 7) (N := some 71) (v := undef) (a' := ?_) #[true, true, true, true, true, true, true, true, false, false, false, false, false, false, false, false, false, false] rfl rfl (any_of HT_.out (by kernel_rfl)) (fun _ _ _ h => h) (Or.inr ⟨by rfl, rfl⟩) ?_ ?_
              rotate_left
              · simp only [Act.put, List.setIfInBounds_toArray, List.set_cons_zero, List.set_cons_succ, i64_w, i32_w]
                rfl
              refine pure_ (i := 8) (N := some 72) (v := undef) (a' := ?_) #[true, true, true, true, true, true, true, true, true, false, false, false, false, false, false, false, false, false] rfl rfl (any_of HT_.out (by kernel_rfl)) (fun _ _ _ h => h) (Or.inr ⟨by rfl, rfl⟩) ?_ ?_
              rotate_left
              · simp only [Act.put, List.setIfInBounds_toArray, List.set_cons_zero, List.set_cons_succ, i64_w, i32_w]
                rfl
              refine pure_ (i := 9) (N := some 73) (v := undef) (a' := ?_) #[true, true, true, true, true, true, true, true, true, true, false, false, false, false, false, false, false, false] rfl rfl (any_of HT_.out (by kernel_rfl)) (fun _ _ _ h => h) (Or.inr ⟨by rfl, rfl⟩) ?_ ?_
              rotate_left
              · simp only [Act.put, List.setIfInBounds_toArray, List.set_cons_zero, List.set_cons_succ, i64_w, i32_w]
                rfl
              refine pure_ (i := 10) (N := some 74) (v := ?_) (a' := ?_) #[true, true, true, true, true, true, true, true, true, true, true, false, false, false, false, false, false, false] rfl rfl (any_of HT_.out (by kernel_rfl)) (fun _ _ _ h => h) (Or.inl ⟨by rfl, ?_⟩) ?_ ?_
              rotate_left
              · intro w'
                go_simp
                with_reducible rfl
              rotate_left
              · simp only [Act.put, List.setIfInBounds_toArray, List.set_cons_zero, List.set_cons_succ, i64_w, i32_w]
                rfl
              refine pure_ (i := 11) (N := some 75) (v := ?_) (a' := ?_) #[true, true, true, true, true, true, true, true, true, true, true, true, false, false, false, false, false, false] rfl rfl (any_of HT_.out (by kernel_rfl)) (fun _ _ _ h => h) (Or.inl ⟨by rfl, ?_⟩) ?_ ?_
              rotate_left
              · intro w'
                go_simp
                with_reducible rfl
              rotate_left
              · simp only [Act.put, List.setIfInBounds_toArray, List.set_cons_zero, List.set_cons_succ, i64_w, i32_w]
                rfl
              refine pure_ (i := 12) (N := some 76) (v := undef) (a' := ?_) #[true, true, true, true, true, true, true, true, true, true, true, true, true, false, false, false, false, false] rfl rfl (any_of HT_.out (by kernel_rfl)) (fun _ _ _ h => h) (Or.inr ⟨by rfl, rfl⟩) ?_ ?_
              rotate_left
              · simp only [Act.put, List.setIfInBounds_toArray, List.set_cons_zero, List.set_cons_succ, i64_w, i32_w]
                rfl
              refine pure_ (i := 13) (N := some 77) (v := undef) (a' := ?_) #[true, true, true, true, true, true, true, true, true, true, true, true, true, true, false, false, false, false] rfl rfl (any_of HT_.out (by kernel_rfl)) (fun _ _ _ h => h) (Or.inr ⟨by rfl, rfl⟩) ?_ ?_
              rotate_left
              · simp only [Act.put, List.setIfInBounds_toArray, List.set_cons_zero, List.set_cons_succ, i64_w, i32_w]
                rfl
              refine pure_ (i := 14) (N := some 78) (v := undef) (a' := ?_) #[true, true, true, true, true, true, true, true, true, true, true, true, true, true, true, false, false, false] rfl rfl (any_of HT_.out (by kernel_rfl)) (fun _ _ _ h => h) (Or.inr ⟨by rfl, rfl⟩) ?_ ?_
              rotate_left
              · simp only [Act.put, List.setIfInBounds_toArray, List.set_cons_zero, List.set_cons_succ, i64_w, i32_w]
                rfl
              refine pure_ (i := 15) (N := some 79) (v := undef) (a' := ?_) #[true, true, true, true, true, true, true, true, true, true, true, true, true, true, true, true, false, false] rfl rfl (any_of HT_.out (by kernel_rfl)) (fun _ _ _ h => h) (Or.inr ⟨by rfl, rfl⟩) ?_ ?_
              rotate_left
              · simp only [Act.put, List.setIfInBounds_toArray, List.set_cons_zero, List.set_cons_succ, i64_w, i32_w]
                rfl
              refine pure_ (i := 16) (N := some 80) (v := undef) (a' := ?_) #[true, true, true, true, true, true, true, true, true, true, true, true, true, true, true, true, true, false] rfl rfl (any_of HT_.out (by kernel_rfl)) (fun _ _ _ h => h) (Or.inr ⟨by rfl, rfl⟩) ?_ ?_
              rotate_left
              · simp only [Act.put, List.setIfInBounds_toArray, List.set_cons_zero, List.set_cons_succ, i64_w, i32_w]
                rfl
              refine pure_ (i := 17) (N := some 81) (v := ?_) (a' := ?_) #[true, true, true, true, true, true, true, true, true, true, true, true, true, true, true, true, true, true] rfl rfl (any_of HT_.out (by kernel_rfl)) (fun _ _ _ h => h) (Or.inl ⟨by rfl, ?_⟩) ?_ ?_
              rotate_left
              · intro w'
                go_simp
                with_reducible rfl
              rotate_left
              · simp only [Act.put, List.setIfInBounds_toArray, List.set_cons_zero, List.set_cons_succ, i64_w, i32_w]
                rfl
              refine done_ (done_of HT_.out (by kernel_rfl)) ?_
              try go_wp2
              go_meet
              case rel => exact ⟨_, (true), (by first | rfl | (simp; done) | (simp [*]; done)), H', ⟨by have := HJ2.out; first | omega | exact Nat.le_refl _⟩, ⟨by (with_reducible repeat (first | refine blk_drewN ?_ _ | refine blk_drew ?_ | refine blk_alloc ?_ _)); exact BK235.out⟩, ⟨by repeat (first | (with_reducible first | exact HB.out | apply below_alloc | apply pw_below_drewN | apply below_drew1 | refine below_set ?_ GE235.out) | exact HB.out)⟩⟩
          case rest =>
            clear HC20
            try clear c1
            try clear c2
            try clear p2
            try clear c10
            try clear c14
            try clear c15
            try clear c17
            try clear c18
            try clear c19
            try clear c26
            try clear c28
            try clear c28b0
            try clear c28b1
            try clear hcz23_0
            try clear hcz23_1
            try clear hfz21_1
            try clear hfz23_0
            try clear hfz23_1
            obtain ⟨kq, x81_19, rfl, HA, HJ19, BK235, HB⟩ := hcut
            cases kq with
            | zero => exact absurd HA.out (by simp [athanorlaw20_ChainLeast.j1])
            | succ kj19 =>
              have H := HA.out
              clear HA
              simp only [athanorlaw20_ChainLeast.j1] at H
              by_cases c41 : x81_19 = true
              · subst c41
                have H1 : (some false) = some r := by rw [if_pos rfl] at H; exact H
                clear H
                have H := H1
                clear H1
                obtain rfl := Option.some.inj H
                go_wp2
                go_ret
                exact ⟨by first | rfl | (simp [errW_none, errW_some] <;> rfl) | (simp [*, errW_none, errW_some] <;> rfl), by repeat (first | (with_reducible first | exact HB.out | apply below_alloc | apply pw_below_drewN | apply below_drew1 | refine below_set ?_ GE235.out) | exact HB.out)⟩
              · replace c41 := Bool.eq_false_iff.mpr c41
                subst c41
                have H1 : (if a1 < 0 then (athanorlaw20_ChainLeast.j2 kj19 a1 t237 t238 true l0_0 l0_1) else (athanorlaw20_ChainLeast.j2 kj19 a1 t237 t238 (decide (a1 > 4096)) l0_0 l0_1)) = some r := by rw [if_neg (show ¬ (false = true) by decide)] at H; exact H
                clear H
                have H := H1
                clear H1
                have HC42 := Aside0.mk H
                clear H
                go_upto_region 8 with (fail)
                go_cut [87] (fun v87 wc => ∃ (kq : Nat) (x87_41 : Bool), v87 = .bool x87_41 ∧ Aside0 (athanorlaw20_ChainLeast.j2 kq a1 t237 t238 x87_41 l0_0 l0_1 = some r) ∧ Aside0 (kq ≤ kj19) ∧ Aside0 (wc.heap[gb235]? = some (.cells #[(.slice A0_0 l0_0.length c0_0), (.slice A0_1 l0_1.length c0_1)] 24 (0, 0))) ∧ Aside0 (Below w.heap.size w wc))
                case first =>
                  have H := HC42.out
                  clear HC42
                  by_cases c43 : a1 < 0
                  · rw [if_pos c43] at H
                    have c43b0 : decide (a1 < 0) = true := decide_eq_true c43
                    clear c43
                    (first | rw [c43b0] | (simp only [i64_w, i32_w]; rw [c43b0]) | skip)
                    have H' := Aside0.mk H
                    clear H
                    go_wp2
                    go_meet
                    case rel => exact ⟨_, (true), (by first | rfl | (simp; done) | (simp [*]; done)), H', ⟨by have := HJ2.out; have := HJ19.out; first | omega | exact Nat.le_refl _⟩, ⟨by (with_reducible repeat (first | refine blk_drewN ?_ _ | refine blk_drew ?_ | refine blk_alloc ?_ _)); exact BK235.out⟩, ⟨by repeat (first | (with_reducible first | exact HB.out | apply below_alloc | apply pw_below_drewN | apply below_drew1 | refine below_set ?_ GE235.out) | exact HB.out)⟩⟩
                  · rw [if_neg c43] at H
                    have c43b0 : decide (a1 < 0) = false := decide_eq_false c43
                    clear c43
                    (first | rw [c43b0] | (simp only [i64_w, i32_w]; rw [c43b0]) | skip)
                    have H' := Aside0.mk H
                    clear H
                    go_wp2
                    go_meet
                    case rel => exact ⟨_, (decide (a1 > 4096)), (by first | rfl | (simp; done) | (simp [*]; done)), H', ⟨by have := HJ2.out; have := HJ19.out; first | omega | exact Nat.le_refl _⟩, ⟨by (with_reducible repeat (first | refine blk_drewN ?_ _ | refine blk_drew ?_ | refine blk_alloc ?_ _)); exact BK235.out⟩, ⟨by repeat (first | (with_reducible first | exact HB.out | apply below_alloc | apply pw_below_drewN | apply below_drew1 | refine below_set ?_ GE235.out) | exact HB.out)⟩⟩
                case rest =>
                  clear HC42
                  try clear c1
                  try clear c2
                  try clear p2
                  try clear c4
                  try clear c10
                  try clear c14
                  try clear c15
                  try clear c17
                  try clear c18
                  try clear c19
                  try clear c26
                  try clear c28
                  try clear c28b0
                  try clear c28b1
                  try clear c41
                  try clear c43
                  try clear c43b0
                  try clear hcz23_0
                  try clear hcz23_1
                  try clear hfz21_1
                  try clear hfz23_0
                  try clear hfz23_1
                  try clear p2
                  obtain ⟨kq, x87_41, rfl, HA, HJ41, BK235, HB⟩ := hcut
                  cases kq with
                  | zero => exact absurd HA.out (by simp [athanorlaw20_ChainLeast.j2])
                  | succ kj41 =>
                    have H := HA.out
                    clear HA
                    simp only [athanorlaw20_ChainLeast.j2] at H
                    by_cases c44 : x87_41 = true
                    · subst c44
                      have H1 : (if t238 = 11 then (if t237 = 0 then ((athanorlaw20_awake.f kj41).bind fun t248 => (some t248)) else (some false)) else (some false)) = some r := by rw [if_pos rfl] at H; exact H
                      clear H
                      have H := H1
                      clear H1
                      by_cases c45 : t238 = 11
                      · rw [if_pos c45] at H
                        have c45b0 : (t238 == 11) = true := beq_iff_eq.mpr c45
                        have c45b1 : (t238 != 11) = false := bne_eq_false_iff_eq.mpr c45
                        clear c45
                        by_cases c46 : t237 = 0
                        · rw [if_pos c46] at H
                          have c46b0 : (t237 == 0) = true := beq_iff_eq.mpr c46
                          have c46b1 : (t237 != 0) = false := bne_eq_false_iff_eq.mpr c46
                          clear c46
                          replace H := Option.bind_eq_some_iff.mp H
                          obtain ⟨t248, A470, H⟩ := H
                          replace H : (some t248) = some r := H
                          have A47 := Aside0.mk A470
                          clear A470
                          obtain rfl := Option.some.inj H
                          go_wp2_with (first | (go_at_call 9; (with_reducible refine (athanorlaw20_awake.calls kj41  t248 _ A47.out).mono ?_); rintro e w48 ⟨rfl, hb⟩; have n0_ := Aside0.mk (blk_below (g := gb235) (o := .cells #[.slice A0_0 l0_0.length c0_0, .slice A0_1 l0_1.length c0_1] 24 (0, 0)) (by (with_reducible repeat (first | refine blk_drewN ?_ _ | refine blk_drew ?_ | refine blk_alloc ?_ _)); exact BK235.out) hb); have n1_ := Aside0.mk (below_step (by repeat (first | (with_reducible first | exact HB.out | apply below_alloc | apply pw_below_drewN | apply below_drew1 | refine below_set ?_ GE235.out) | exact HB.out)) hb); clear BK235; clear HB; have BK235 := n0_; have HB := n1_; clear n0_ n1_; (try clear hb); (try clear hb2); (try clear hk); (try clear hi)))
                          go_ret
                          exact ⟨by first | rfl | (simp [errW_none, errW_some] <;> rfl) | (simp [*, errW_none, errW_some] <;> rfl), by repeat (first | (with_reducible first | exact HB.out | apply below_alloc | apply pw_below_drewN | apply below_drew1 | refine below_set ?_ GE235.out) | exact HB.out)⟩
                        · rw [if_neg c46] at H
                          have c46b0 : (t237 == 0) = false := beq_eq_false_iff_ne.mpr c46
                          have c46b1 : (t237 != 0) = true := bne_iff_ne.mpr c46
                          obtain rfl := Option.some.inj H
                          go_wp2
                          go_ret
                          exact ⟨by first | rfl | (simp [errW_none, errW_some] <;> rfl) | (simp [*, errW_none, errW_some] <;> rfl), by repeat (first | (with_reducible first | exact HB.out | apply below_alloc | apply pw_below_drewN | apply below_drew1 | refine below_set ?_ GE235.out) | exact HB.out)⟩
                      · rw [if_neg c45] at H
                        have c45b0 : (t238 == 11) = false := beq_eq_false_iff_ne.mpr c45
                        have c45b1 : (t238 != 11) = true := bne_iff_ne.mpr c45
                        obtain rfl := Option.some.inj H
                        go_wp2
                        go_ret
                        exact ⟨by first | rfl | (simp [errW_none, errW_some] <;> rfl) | (simp [*, errW_none, errW_some] <;> rfl), by repeat (first | (with_reducible first | exact HB.out | apply below_alloc | apply pw_below_drewN | apply below_drew1 | refine below_set ?_ GE235.out) | exact HB.out)⟩
                    · replace c44 := Bool.eq_false_iff.mpr c44
                      subst c44
                      have H1 : (if (l0_1.length : Int) > 7 then ((athanorlaw20_awake.f kj41).bind fun t249 => (some t249)) else ((athanorref20_Least.f kj41 l0_0 l0_1 0 (l0_1.length : Int) a1).bind fun t250 => (if t250 < 0 then (if t238 = 26 then (if t237 = 0 then ((athanorlaw20_awake.f kj41).bind fun t251 => (some t251)) else (some false)) else (some false)) else (if t238 = 0 then (if t237 = t250 then ((athanorlaw20_awake.f kj41).bind fun t252 => (some t252)) else (some false)) else (some false))))) = some r := by rw [if_neg (show ¬ (false = true) by decide)] at H; exact H
                      clear H
                      have H := H1
                      clear H1
                      by_cases c49 : (l0_1.length : Int) > 7
                      · rw [if_pos c49] at H
                        have c49b0 : decide (7 < (l0_1.length : Int)) = true := decide_eq_true c49
                        have c49b1 : decide (7 < l0_1.length) = true := decide_eq_true (by omega)
                        clear c49
                        replace H := Option.bind_eq_some_iff.mp H
                        obtain ⟨t249, A500, H⟩ := H
                        replace H : (some t249) = some r := H
                        have A50 := Aside0.mk A500
                        clear A500
                        obtain rfl := Option.some.inj H
                        have hcz51_0 : wc.cell? ⟨gb235, 0, none⟩ = some (.slice A0_0 l0_0.length c0_0) := (blk_cell BK235.out 0).trans rfl
                        have hcz51_1 : wc.cell? ⟨gb235, 1, none⟩ = some (.slice A0_1 l0_1.length c0_1) := (blk_cell BK235.out 1).trans rfl
                        have hfz51_0 := blk_frozen BK235.out 0
                        have hfz51_1 := blk_frozen BK235.out 1
                        go_wp2_with (first | ((with_reducible refine gate_callee (f := 9) rfl ?_); refine goesL_ (some 101) rfl rfl Try.func9 (by kernel_rfl) rfl #[] rfl (by (try simp only [List.map_toArray, List.map_cons, List.map_nil]); first | done | rfl | (simp only [List.length_drop, List.length_take]; rfl)) ?_; (with_reducible refine (athanorlaw20_awake.calls kj41  t249 _ A50.out).mono ?_); rintro e w52 ⟨rfl, hb⟩; refine ⟨_, rfl, ?_⟩; have n0_ := Aside0.mk (blk_below (g := gb235) (o := .cells #[.slice A0_0 l0_0.length c0_0, .slice A0_1 l0_1.length c0_1] 24 (0, 0)) (by (with_reducible repeat (first | refine blk_drewN ?_ _ | refine blk_drew ?_ | refine blk_alloc ?_ _)); exact BK235.out) hb); have n1_ := Aside0.mk (below_step (by repeat (first | (with_reducible first | exact HB.out | apply below_alloc | apply pw_below_drewN | apply below_drew1 | refine below_set ?_ GE235.out) | exact HB.out)) hb); clear BK235; clear HB; have BK235 := n0_; have HB := n1_; clear n0_ n1_; (try clear hb); (try clear hb2); (try clear hk); (try clear hi)))
                        go_ret
                        exact ⟨by first | rfl | (simp [errW_none, errW_some] <;> rfl) | (simp [*, errW_none, errW_some] <;> rfl), by repeat (first | (with_reducible first | exact HB.out | apply below_alloc | apply pw_below_drewN | apply below_drew1 | refine below_set ?_ GE235.out) | exact HB.out)⟩
                      · rw [if_neg c49] at H
                        have c49b0 : decide (7 < (l0_1.length : Int)) = false := decide_eq_false c49
                        have c49b1 : decide (7 < l0_1.length) = false := decide_eq_false (by omega)
                        clear c49
                        replace H := Option.bind_eq_some_iff.mp H
                        obtain ⟨t250, A530, H⟩ := H
                        replace H : (if t250 < 0 then (if t238 = 26 then (if t237 = 0 then ((athanorlaw20_awake.f kj41).bind fun t251 => (some t251)) else (some false)) else (some false)) else (if t238 = 0 then (if t237 = t250 then ((athanorlaw20_awake.f kj41).bind fun t252 => (some t252)) else (some false)) else (some false))) = some r := H
                        have A53 := Aside0.mk A530
                        clear A530
                        by_cases c54 : t250 < 0
                        · rw [if_pos c54] at H
                          have c54b0 : decide (t250 < 0) = true := decide_eq_true c54
                          clear c54
                          by_cases c55 : t238 = 26
                          · rw [if_pos c55] at H
                            have c55b0 : (t238 == 26) = true := beq_iff_eq.mpr c55
                            have c55b1 : (t238 != 26) = false := bne_eq_false_iff_eq.mpr c55
                            clear c55
                            by_cases c56 : t237 = 0
                            · rw [if_pos c56] at H
                              have c56b0 : (t237 == 0) = true := beq_iff_eq.mpr c56
                              have c56b1 : (t237 != 0) = false := bne_eq_false_iff_eq.mpr c56
                              clear c56
                              replace H := Option.bind_eq_some_iff.mp H
                              obtain ⟨t251, A570, H⟩ := H
                              replace H : (some t251) = some r := H
                              have A57 := Aside0.mk A570
                              clear A570
                              obtain rfl := Option.some.inj H
                              have hcz58_0 : wc.cell? ⟨gb235, 0, none⟩ = some (.slice A0_0 l0_0.length c0_0) := (blk_cell BK235.out 0).trans rfl
                              have hcz58_1 : wc.cell? ⟨gb235, 1, none⟩ = some (.slice A0_1 l0_1.length c0_1) := (blk_cell BK235.out 1).trans rfl
                              have hfz58_0 := blk_frozen BK235.out 0
                              have hfz58_1 := blk_frozen BK235.out 1
                              go_wp2_with (first | ((with_reducible refine gate_callee (f := 20) rfl ?_); refine goesL_ (some 110) rfl rfl Try.func20 (by kernel_rfl) rfl #[.slice A0_0 l0_0.length c0_0, .slice A0_1 l0_1.length c0_1, .int .i64 0, .int .i64 (l0_1.length : Int), .int .i64 a1] rfl (by (try simp only [List.map_toArray, List.map_cons, List.map_nil]); first | done | rfl | (simp only [List.length_drop, List.length_take]; rfl)) ?_; (with_reducible refine (athanorref20_Least.calls kj41 _ _ l0_0 _ _ l0_1 0 (l0_1.length : Int) a1 t250 _ ?side1 ?side2 ?side3 ?side4 A53.out).mono ?_); (case side1 => repeat (first | exact (Kd.C_below HR0_0.out HB.out) | (with_reducible refine Kd.C_alloc ?_ _) | (with_reducible refine Kd.C_drewN ?_ _) | (with_reducible refine Kd.C_drew ?_))); (case side2 => exact HC0_0.out); (case side3 => repeat (first | exact (Kd.C_below HR0_1.out HB.out) | (with_reducible refine Kd.C_alloc ?_ _) | (with_reducible refine Kd.C_drewN ?_ _) | (with_reducible refine Kd.C_drew ?_))); (case side4 => exact HC0_1.out); rintro e w' ⟨rfl, ⟨nd, rfl⟩⟩; refine ⟨_, rfl, ?_⟩) | (go_at_call 9; (with_reducible refine (athanorlaw20_awake.calls kj41  t251 _ A57.out).mono ?_); rintro e w59 ⟨rfl, hb⟩; have n0_ := Aside0.mk (blk_below (g := gb235) (o := .cells #[.slice A0_0 l0_0.length c0_0, .slice A0_1 l0_1.length c0_1] 24 (0, 0)) (by (with_reducible repeat (first | refine blk_drewN ?_ _ | refine blk_drew ?_ | refine blk_alloc ?_ _)); exact BK235.out) hb); have n1_ := Aside0.mk (below_step (by repeat (first | (with_reducible first | exact HB.out | apply below_alloc | apply pw_below_drewN | apply below_drew1 | refine below_set ?_ GE235.out) | exact HB.out)) hb); clear BK235; clear HB; have BK235 := n0_; have HB := n1_; clear n0_ n1_; (try clear hb); (try clear hb2); (try clear hk); (try clear hi)))
                              go_ret
                              exact ⟨by first | rfl | (simp [errW_none, errW_some] <;> rfl) | (simp [*, errW_none, errW_some] <;> rfl), by repeat (first | (with_reducible first | exact HB.out | apply below_alloc | apply pw_below_drewN | apply below_drew1 | refine below_set ?_ GE235.out) | exact HB.out)⟩
                            · rw [if_neg c56] at H
                              have c56b0 : (t237 == 0) = false := beq_eq_false_iff_ne.mpr c56
                              have c56b1 : (t237 != 0) = true := bne_iff_ne.mpr c56
                              obtain rfl := Option.some.inj H
                              have hcz60_0 : wc.cell? ⟨gb235, 0, none⟩ = some (.slice A0_0 l0_0.length c0_0) := (blk_cell BK235.out 0).trans rfl
                              have hcz60_1 : wc.cell? ⟨gb235, 1, none⟩ = some (.slice A0_1 l0_1.length c0_1) := (blk_cell BK235.out 1).trans rfl
                              have hfz60_0 := blk_frozen BK235.out 0
                              have hfz60_1 := blk_frozen BK235.out 1
                              go_wp2_with (first | ((with_reducible refine gate_callee (f := 20) rfl ?_); refine goesL_ (some 110) rfl rfl Try.func20 (by kernel_rfl) rfl #[.slice A0_0 l0_0.length c0_0, .slice A0_1 l0_1.length c0_1, .int .i64 0, .int .i64 (l0_1.length : Int), .int .i64 a1] rfl (by (try simp only [List.map_toArray, List.map_cons, List.map_nil]); first | done | rfl | (simp only [List.length_drop, List.length_take]; rfl)) ?_; (with_reducible refine (athanorref20_Least.calls kj41 _ _ l0_0 _ _ l0_1 0 (l0_1.length : Int) a1 t250 _ ?side1 ?side2 ?side3 ?side4 A53.out).mono ?_); (case side1 => repeat (first | exact (Kd.C_below HR0_0.out HB.out) | (with_reducible refine Kd.C_alloc ?_ _) | (with_reducible refine Kd.C_drewN ?_ _) | (with_reducible refine Kd.C_drew ?_))); (case side2 => exact HC0_0.out); (case side3 => repeat (first | exact (Kd.C_below HR0_1.out HB.out) | (with_reducible refine Kd.C_alloc ?_ _) | (with_reducible refine Kd.C_drewN ?_ _) | (with_reducible refine Kd.C_drew ?_))); (case side4 => exact HC0_1.out); rintro e w' ⟨rfl, ⟨nd, rfl⟩⟩; refine ⟨_, rfl, ?_⟩))
                              go_ret
                              exact ⟨by first | rfl | (simp [errW_none, errW_some] <;> rfl) | (simp [*, errW_none, errW_some] <;> rfl), by repeat (first | (with_reducible first | exact HB.out | apply below_alloc | apply pw_below_drewN | apply below_drew1 | refine below_set ?_ GE235.out) | exact HB.out)⟩
                          · rw [if_neg c55] at H
                            have c55b0 : (t238 == 26) = false := beq_eq_false_iff_ne.mpr c55
                            have c55b1 : (t238 != 26) = true := bne_iff_ne.mpr c55
                            obtain rfl := Option.some.inj H
                            have hcz61_0 : wc.cell? ⟨gb235, 0, none⟩ = some (.slice A0_0 l0_0.length c0_0) := (blk_cell BK235.out 0).trans rfl
                            have hcz61_1 : wc.cell? ⟨gb235, 1, none⟩ = some (.slice A0_1 l0_1.length c0_1) := (blk_cell BK235.out 1).trans rfl
                            have hfz61_0 := blk_frozen BK235.out 0
                            have hfz61_1 := blk_frozen BK235.out 1
                            go_wp2_with (first | ((with_reducible refine gate_callee (f := 20) rfl ?_); refine goesL_ (some 110) rfl rfl Try.func20 (by kernel_rfl) rfl #[.slice A0_0 l0_0.length c0_0, .slice A0_1 l0_1.length c0_1, .int .i64 0, .int .i64 (l0_1.length : Int), .int .i64 a1] rfl (by (try simp only [List.map_toArray, List.map_cons, List.map_nil]); first | done | rfl | (simp only [List.length_drop, List.length_take]; rfl)) ?_; (with_reducible refine (athanorref20_Least.calls kj41 _ _ l0_0 _ _ l0_1 0 (l0_1.length : Int) a1 t250 _ ?side1 ?side2 ?side3 ?side4 A53.out).mono ?_); (case side1 => repeat (first | exact (Kd.C_below HR0_0.out HB.out) | (with_reducible refine Kd.C_alloc ?_ _) | (with_reducible refine Kd.C_drewN ?_ _) | (with_reducible refine Kd.C_drew ?_))); (case side2 => exact HC0_0.out); (case side3 => repeat (first | exact (Kd.C_below HR0_1.out HB.out) | (with_reducible refine Kd.C_alloc ?_ _) | (with_reducible refine Kd.C_drewN ?_ _) | (with_reducible refine Kd.C_drew ?_))); (case side4 => exact HC0_1.out); rintro e w' ⟨rfl, ⟨nd, rfl⟩⟩; refine ⟨_, rfl, ?_⟩))
                            go_ret
                            exact ⟨by first | rfl | (simp [errW_none, errW_some] <;> rfl) | (simp [*, errW_none, errW_some] <;> rfl), by repeat (first | (with_reducible first | exact HB.out | apply below_alloc | apply pw_below_drewN | apply below_drew1 | refine below_set ?_ GE235.out) | exact HB.out)⟩
                        · rw [if_neg c54] at H
                          have c54b0 : decide (t250 < 0) = false := decide_eq_false c54
                          clear c54
                          by_cases c62 : t238 = 0
                          · rw [if_pos c62] at H
                            have c62b0 : (t238 == 0) = true := beq_iff_eq.mpr c62
                            have c62b1 : (t238 != 0) = false := bne_eq_false_iff_eq.mpr c62
                            clear c62
                            by_cases c63 : t237 = t250
                            · rw [if_pos c63] at H
                              have c63b0 : (t237 == t250) = true := beq_iff_eq.mpr c63
                              have c63b1 : (t237 != t250) = false := bne_eq_false_iff_eq.mpr c63
                              clear c63
                              replace H := Option.bind_eq_some_iff.mp H
                              obtain ⟨t252, A640, H⟩ := H
                              replace H : (some t252) = some r := H
                              have A64 := Aside0.mk A640
                              clear A640
                              obtain rfl := Option.some.inj H
                              have hcz65_0 : wc.cell? ⟨gb235, 0, none⟩ = some (.slice A0_0 l0_0.length c0_0) := (blk_cell BK235.out 0).trans rfl
                              have hcz65_1 : wc.cell? ⟨gb235, 1, none⟩ = some (.slice A0_1 l0_1.length c0_1) := (blk_cell BK235.out 1).trans rfl
                              have hfz65_0 := blk_frozen BK235.out 0
                              have hfz65_1 := blk_frozen BK235.out 1
                              go_wp2_with (first | ((with_reducible refine gate_callee (f := 20) rfl ?_); refine goesL_ (some 110) rfl rfl Try.func20 (by kernel_rfl) rfl #[.slice A0_0 l0_0.length c0_0, .slice A0_1 l0_1.length c0_1, .int .i64 0, .int .i64 (l0_1.length : Int), .int .i64 a1] rfl (by (try simp only [List.map_toArray, List.map_cons, List.map_nil]); first | done | rfl | (simp only [List.length_drop, List.length_take]; rfl)) ?_; (with_reducible refine (athanorref20_Least.calls kj41 _ _ l0_0 _ _ l0_1 0 (l0_1.length : Int) a1 t250 _ ?side1 ?side2 ?side3 ?side4 A53.out).mono ?_); (case side1 => repeat (first | exact (Kd.C_below HR0_0.out HB.out) | (with_reducible refine Kd.C_alloc ?_ _) | (with_reducible refine Kd.C_drewN ?_ _) | (with_reducible refine Kd.C_drew ?_))); (case side2 => exact HC0_0.out); (case side3 => repeat (first | exact (Kd.C_below HR0_1.out HB.out) | (with_reducible refine Kd.C_alloc ?_ _) | (with_reducible refine Kd.C_drewN ?_ _) | (with_reducible refine Kd.C_drew ?_))); (case side4 => exact HC0_1.out); rintro e w' ⟨rfl, ⟨nd, rfl⟩⟩; refine ⟨_, rfl, ?_⟩) | (go_at_call 9; (with_reducible refine (athanorlaw20_awake.calls kj41  t252 _ A64.out).mono ?_); rintro e w66 ⟨rfl, hb⟩; have n0_ := Aside0.mk (blk_below (g := gb235) (o := .cells #[.slice A0_0 l0_0.length c0_0, .slice A0_1 l0_1.length c0_1] 24 (0, 0)) (by (with_reducible repeat (first | refine blk_drewN ?_ _ | refine blk_drew ?_ | refine blk_alloc ?_ _)); exact BK235.out) hb); have n1_ := Aside0.mk (below_step (by repeat (first | (with_reducible first | exact HB.out | apply below_alloc | apply pw_below_drewN | apply below_drew1 | refine below_set ?_ GE235.out) | exact HB.out)) hb); clear BK235; clear HB; have BK235 := n0_; have HB := n1_; clear n0_ n1_; (try clear hb); (try clear hb2); (try clear hk); (try clear hi)))
                              go_ret
                              exact ⟨by first | rfl | (simp [errW_none, errW_some] <;> rfl) | (simp [*, errW_none, errW_some] <;> rfl), by repeat (first | (with_reducible first | exact HB.out | apply below_alloc | apply pw_below_drewN | apply below_drew1 | refine below_set ?_ GE235.out) | exact HB.out)⟩
                            · rw [if_neg c63] at H
                              have c63b0 : (t237 == t250) = false := beq_eq_false_iff_ne.mpr c63
                              have c63b1 : (t237 != t250) = true := bne_iff_ne.mpr c63
                              obtain rfl := Option.some.inj H
                              have hcz67_0 : wc.cell? ⟨gb235, 0, none⟩ = some (.slice A0_0 l0_0.length c0_0) := (blk_cell BK235.out 0).trans rfl
                              have hcz67_1 : wc.cell? ⟨gb235, 1, none⟩ = some (.slice A0_1 l0_1.length c0_1) := (blk_cell BK235.out 1).trans rfl
                              have hfz67_0 := blk_frozen BK235.out 0
                              have hfz67_1 := blk_frozen BK235.out 1
                              go_wp2_with (first | ((with_reducible refine gate_callee (f := 20) rfl ?_); refine goesL_ (some 110) rfl rfl Try.func20 (by kernel_rfl) rfl #[.slice A0_0 l0_0.length c0_0, .slice A0_1 l0_1.length c0_1, .int .i64 0, .int .i64 (l0_1.length : Int), .int .i64 a1] rfl (by (try simp only [List.map_toArray, List.map_cons, List.map_nil]); first | done | rfl | (simp only [List.length_drop, List.length_take]; rfl)) ?_; (with_reducible refine (athanorref20_Least.calls kj41 _ _ l0_0 _ _ l0_1 0 (l0_1.length : Int) a1 t250 _ ?side1 ?side2 ?side3 ?side4 A53.out).mono ?_); (case side1 => repeat (first | exact (Kd.C_below HR0_0.out HB.out) | (with_reducible refine Kd.C_alloc ?_ _) | (with_reducible refine Kd.C_drewN ?_ _) | (with_reducible refine Kd.C_drew ?_))); (case side2 => exact HC0_0.out); (case side3 => repeat (first | exact (Kd.C_below HR0_1.out HB.out) | (with_reducible refine Kd.C_alloc ?_ _) | (with_reducible refine Kd.C_drewN ?_ _) | (with_reducible refine Kd.C_drew ?_))); (case side4 => exact HC0_1.out); rintro e w' ⟨rfl, ⟨nd, rfl⟩⟩; refine ⟨_, rfl, ?_⟩))
                              go_ret
                              exact ⟨by first | rfl | (simp [errW_none, errW_some] <;> rfl) | (simp [*, errW_none, errW_some] <;> rfl), by repeat (first | (with_reducible first | exact HB.out | apply below_alloc | apply pw_below_drewN | apply below_drew1 | refine below_set ?_ GE235.out) | exact HB.out)⟩
                          · rw [if_neg c62] at H
                            have c62b0 : (t238 == 0) = false := beq_eq_false_iff_ne.mpr c62
                            have c62b1 : (t238 != 0) = true := bne_iff_ne.mpr c62
                            obtain rfl := Option.some.inj H
                            have hcz68_0 : wc.cell? ⟨gb235, 0, none⟩ = some (.slice A0_0 l0_0.length c0_0) := (blk_cell BK235.out 0).trans rfl
                            have hcz68_1 : wc.cell? ⟨gb235, 1, none⟩ = some (.slice A0_1 l0_1.length c0_1) := (blk_cell BK235.out 1).trans rfl
                            have hfz68_0 := blk_frozen BK235.out 0
                            have hfz68_1 := blk_frozen BK235.out 1
                            go_wp2_with (first | ((with_reducible refine gate_callee (f := 20) rfl ?_); refine goesL_ (some 110) rfl rfl Try.func20 (by kernel_rfl) rfl #[.slice A0_0 l0_0.length c0_0, .slice A0_1 l0_1.length c0_1, .int .i64 0, .int .i64 (l0_1.length : Int), .int .i64 a1] rfl (by (try simp only [List.map_toArray, List.map_cons, List.map_nil]); first | done | rfl | (simp only [List.length_drop, List.length_take]; rfl)) ?_; (with_reducible refine (athanorref20_Least.calls kj41 _ _ l0_0 _ _ l0_1 0 (l0_1.length : Int) a1 t250 _ ?side1 ?side2 ?side3 ?side4 A53.out).mono ?_); (case side1 => repeat (first | exact (Kd.C_below HR0_0.out HB.out) | (with_reducible refine Kd.C_alloc ?_ _) | (with_reducible refine Kd.C_drewN ?_ _) | (with_reducible refine Kd.C_drew ?_))); (case side2 => exact HC0_0.out); (case side3 => repeat (first | exact (Kd.C_below HR0_1.out HB.out) | (with_reducible refine Kd.C_alloc ?_ _) | (with_reducible refine Kd.C_drewN ?_ _) | (with_reducible refine Kd.C_drew ?_))); (case side4 => exact HC0_1.out); rintro e w' ⟨rfl, ⟨nd, rfl⟩⟩; refine ⟨_, rfl, ?_⟩))
                            go_ret
                            exact ⟨by first | rfl | (simp [errW_none, errW_some] <;> rfl) | (simp [*, errW_none, errW_some] <;> rfl), by repeat (first | (with_reducible first | exact HB.out | apply below_alloc | apply pw_below_drewN | apply below_drew1 | refine below_set ?_ GE235.out) | exact HB.out)⟩
        · replace c19 := Bool.eq_false_iff.mpr c19
          subst c19
          have H1 : (if t238 = 10 then (if t237 = 0 then ((chain_Chain_Right.f l0_0 l0_1).bind fun t240 => (if t240 = true then (some false) else ((chain_Chain_Nodes.f l0_0 l0_1).bind fun t241 => (if t241 = 0 then ((chain_Chain_Total.f kj2 l0_0 l0_1).bind fun t242 => (if t242 = 0 then ((athanorlaw20_awake.f kj2).bind fun t243 => (some t243)) else (some false))) else (some false))))) else (some false)) else (some false)) = some r := by rw [if_neg (show ¬ (false = true) by decide)] at H; exact H
          clear H
          have H := H1
          clear H1
          by_cases c69 : t238 = 10
          · rw [if_pos c69] at H
            have c69b0 : (t238 == 10) = true := beq_iff_eq.mpr c69
            have c69b1 : (t238 != 10) = false := bne_eq_false_iff_eq.mpr c69
            clear c69
            by_cases c70 : t237 = 0
            · rw [if_pos c70] at H
              have c70b0 : (t237 == 0) = true := beq_iff_eq.mpr c70
              have c70b1 : (t237 != 0) = false := bne_eq_false_iff_eq.mpr c70
              clear c70
              replace H := Option.bind_eq_some_iff.mp H
              obtain ⟨t240, A710, H⟩ := H
              replace H : (if t240 = true then (some false) else ((chain_Chain_Nodes.f l0_0 l0_1).bind fun t241 => (if t241 = 0 then ((chain_Chain_Total.f kj2 l0_0 l0_1).bind fun t242 => (if t242 = 0 then ((athanorlaw20_awake.f kj2).bind fun t243 => (some t243)) else (some false))) else (some false)))) = some r := H
              have A71 := Aside0.mk A710
              clear A710
              by_cases c72 : t240 = true
              · subst c72
                have H1 : (some false) = some r := by rw [if_pos rfl] at H; exact H
                clear H
                have H := H1
                clear H1
                obtain rfl := Option.some.inj H
                have hcz73_0 : wc.cell? ⟨gb235, 0, none⟩ = some (.slice A0_0 l0_0.length c0_0) := (blk_cell BK235.out 0).trans rfl
                have hcz73_1 : wc.cell? ⟨gb235, 1, none⟩ = some (.slice A0_1 l0_1.length c0_1) := (blk_cell BK235.out 1).trans rfl
                have hfz73_0 := blk_frozen BK235.out 0
                have hfz73_1 := blk_frozen BK235.out 1
                go_wp2_with (first | ((with_reducible refine gate_callee (f := 10) rfl ?_); refine goesL_ (some 34) rfl rfl Try.func10 (by kernel_rfl) rfl #[.agg #[.slice A0_0 l0_0.length c0_0, .slice A0_1 l0_1.length c0_1], .int .i64 a1] rfl (by (try simp only [List.map_toArray, List.map_cons, List.map_nil]); first | done | rfl | (simp only [List.length_drop, List.length_take]; rfl)) ?_; (with_reducible refine (chain_Chain_Least.calls _ _ l0_0 _ _ l0_1 a1 t237 t238 _ ?side1 ?side2 ?side3 ?side4 A17.out).mono ?_); (case side1 => repeat (first | exact (Kd.C_below HR0_0.out HB.out) | (with_reducible refine Kd.C_alloc ?_ _) | (with_reducible refine Kd.C_drewN ?_ _) | (with_reducible refine Kd.C_drew ?_))); (case side2 => exact HC0_0.out); (case side3 => repeat (first | exact (Kd.C_below HR0_1.out HB.out) | (with_reducible refine Kd.C_alloc ?_ _) | (with_reducible refine Kd.C_drewN ?_ _) | (with_reducible refine Kd.C_drew ?_))); (case side4 => exact HC0_1.out); rintro e w74 ⟨rfl, hb⟩; refine ⟨_, rfl, ?_⟩; have n0_ := Aside0.mk (blk_below (g := gb235) (o := .cells #[.slice A0_0 l0_0.length c0_0, .slice A0_1 l0_1.length c0_1] 24 (0, 0)) (by (with_reducible repeat (first | refine blk_drewN ?_ _ | refine blk_drew ?_ | refine blk_alloc ?_ _)); exact BK235.out) hb); have n1_ := Aside0.mk (below_step (by repeat (first | (with_reducible first | exact HB.out | apply below_alloc | apply pw_below_drewN | apply below_drew1 | refine below_set ?_ GE235.out) | exact HB.out)) hb); clear BK235; clear HB; have BK235 := n0_; have HB := n1_; clear n0_ n1_; (try clear hb); (try clear hb2); (try clear hk); (try clear hi); have hcz75_0 : w74.cell? ⟨gb235, 0, none⟩ = some (.slice A0_0 l0_0.length c0_0) := (blk_cell BK235.out 0).trans rfl; have hcz75_1 : w74.cell? ⟨gb235, 1, none⟩ = some (.slice A0_1 l0_1.length c0_1) := (blk_cell BK235.out 1).trans rfl; have hfz75_0 := blk_frozen BK235.out 0; have hfz75_1 := blk_frozen BK235.out 1) | ((with_reducible refine gate_callee (f := 14) rfl ?_); refine goesL_ (some 38) rfl rfl Try.func14 (by kernel_rfl) rfl #[.agg #[.slice A0_0 l0_0.length c0_0, .slice A0_1 l0_1.length c0_1]] rfl (by (try simp only [List.map_toArray, List.map_cons, List.map_nil]); first | done | rfl | (simp only [List.length_drop, List.length_take]; rfl)) ?_; (with_reducible refine (athanorlaw20_right.calls kj2 _ _ l0_0 _ _ l0_1 false _ ?side1 ?side2 ?side3 ?side4 A18.out).mono ?_); (case side1 => repeat (first | exact (Kd.C_below HR0_0.out HB.out) | (with_reducible refine Kd.C_alloc ?_ _) | (with_reducible refine Kd.C_drewN ?_ _) | (with_reducible refine Kd.C_drew ?_))); (case side2 => exact HC0_0.out); (case side3 => repeat (first | exact (Kd.C_below HR0_1.out HB.out) | (with_reducible refine Kd.C_alloc ?_ _) | (with_reducible refine Kd.C_drewN ?_ _) | (with_reducible refine Kd.C_drew ?_))); (case side4 => exact HC0_1.out); rintro e w76 ⟨rfl, hb⟩; refine ⟨_, rfl, ?_⟩; have n0_ := Aside0.mk (blk_below (g := gb235) (o := .cells #[.slice A0_0 l0_0.length c0_0, .slice A0_1 l0_1.length c0_1] 24 (0, 0)) (by (with_reducible repeat (first | refine blk_drewN ?_ _ | refine blk_drew ?_ | refine blk_alloc ?_ _)); exact BK235.out) hb); have n1_ := Aside0.mk (below_step (by repeat (first | (with_reducible first | exact HB.out | apply below_alloc | apply pw_below_drewN | apply below_drew1 | refine below_set ?_ GE235.out) | exact HB.out)) hb); clear BK235; clear HB; have BK235 := n0_; have HB := n1_; clear n0_ n1_; (try clear hb); (try clear hb2); (try clear hk); (try clear hi); have hcz77_0 : w76.cell? ⟨gb235, 0, none⟩ = some (.slice A0_0 l0_0.length c0_0) := (blk_cell BK235.out 0).trans rfl; have hcz77_1 : w76.cell? ⟨gb235, 1, none⟩ = some (.slice A0_1 l0_1.length c0_1) := (blk_cell BK235.out 1).trans rfl; have hfz77_0 := blk_frozen BK235.out 0; have hfz77_1 := blk_frozen BK235.out 1) | (go_at_call 17; (with_reducible refine (chain_Chain_Right.calls _ _ l0_0 _ _ l0_1 true _ ?side1 ?side2 ?side3 ?side4 A71.out).mono ?_); (case side1 => repeat (first | exact (Kd.C_below HR0_0.out HB.out) | (with_reducible refine Kd.C_alloc ?_ _) | (with_reducible refine Kd.C_drewN ?_ _) | (with_reducible refine Kd.C_drew ?_))); (case side2 => exact HC0_0.out); (case side3 => repeat (first | exact (Kd.C_below HR0_1.out HB.out) | (with_reducible refine Kd.C_alloc ?_ _) | (with_reducible refine Kd.C_drewN ?_ _) | (with_reducible refine Kd.C_drew ?_))); (case side4 => exact HC0_1.out); rintro e w78 ⟨rfl, hb⟩; have n0_ := Aside0.mk (blk_below (g := gb235) (o := .cells #[.slice A0_0 l0_0.length c0_0, .slice A0_1 l0_1.length c0_1] 24 (0, 0)) (by (with_reducible repeat (first | refine blk_drewN ?_ _ | refine blk_drew ?_ | refine blk_alloc ?_ _)); exact BK235.out) hb); have n1_ := Aside0.mk (below_step (by repeat (first | (with_reducible first | exact HB.out | apply below_alloc | apply pw_below_drewN | apply below_drew1 | refine below_set ?_ GE235.out) | exact HB.out)) hb); clear BK235; clear HB; have BK235 := n0_; have HB := n1_; clear n0_ n1_; (try clear hb); (try clear hb2); (try clear hk); (try clear hi)))
                go_ret
                exact ⟨by first | rfl | (simp [errW_none, errW_some] <;> rfl) | (simp [*, errW_none, errW_some] <;> rfl), by repeat (first | (with_reducible first | exact HB.out | apply below_alloc | apply pw_below_drewN | apply below_drew1 | refine below_set ?_ GE235.out) | exact HB.out)⟩
              · replace c72 := Bool.eq_false_iff.mpr c72
                subst c72
                have H1 : ((chain_Chain_Nodes.f l0_0 l0_1).bind fun t241 => (if t241 = 0 then ((chain_Chain_Total.f kj2 l0_0 l0_1).bind fun t242 => (if t242 = 0 then ((athanorlaw20_awake.f kj2).bind fun t243 => (some t243)) else (some false))) else (some false))) = some r := by rw [if_neg (show ¬ (false = true) by decide)] at H; exact H
                clear H
                have H := H1
                clear H1
                replace H := Option.bind_eq_some_iff.mp H
                obtain ⟨t241, A790, H⟩ := H
                replace H : (if t241 = 0 then ((chain_Chain_Total.f kj2 l0_0 l0_1).bind fun t242 => (if t242 = 0 then ((athanorlaw20_awake.f kj2).bind fun t243 => (some t243)) else (some false))) else (some false)) = some r := H
                have A79 := Aside0.mk A790
                clear A790
                by_cases c80 : t241 = 0
                · rw [if_pos c80] at H
                  have c80b0 : (t241 == 0) = true := beq_iff_eq.mpr c80
                  have c80b1 : (t241 != 0) = false := bne_eq_false_iff_eq.mpr c80
                  clear c80
                  replace H := Option.bind_eq_some_iff.mp H
                  obtain ⟨t242, A810, H⟩ := H
                  replace H : (if t242 = 0 then ((athanorlaw20_awake.f kj2).bind fun t243 => (some t243)) else (some false)) = some r := H
                  have A81 := Aside0.mk A810
                  clear A810
                  by_cases c82 : t242 = 0
                  · rw [if_pos c82] at H
                    have c82b0 : (t242 == 0) = true := beq_iff_eq.mpr c82
                    have c82b1 : (t242 != 0) = false := bne_eq_false_iff_eq.mpr c82
                    clear c82
                    replace H := Option.bind_eq_some_iff.mp H
                    obtain ⟨t243, A830, H⟩ := H
                    replace H : (some t243) = some r := H
                    have A83 := Aside0.mk A830
                    clear A830
                    obtain rfl := Option.some.inj H
                    have hcz84_0 : wc.cell? ⟨gb235, 0, none⟩ = some (.slice A0_0 l0_0.length c0_0) := (blk_cell BK235.out 0).trans rfl
                    have hcz84_1 : wc.cell? ⟨gb235, 1, none⟩ = some (.slice A0_1 l0_1.length c0_1) := (blk_cell BK235.out 1).trans rfl
                    have hfz84_0 := blk_frozen BK235.out 0
                    have hfz84_1 := blk_frozen BK235.out 1
                    go_wp2_with (first | ((with_reducible refine gate_callee (f := 10) rfl ?_); refine goesL_ (some 34) rfl rfl Try.func10 (by kernel_rfl) rfl #[.agg #[.slice A0_0 l0_0.length c0_0, .slice A0_1 l0_1.length c0_1], .int .i64 a1] rfl (by (try simp only [List.map_toArray, List.map_cons, List.map_nil]); first | done | rfl | (simp only [List.length_drop, List.length_take]; rfl)) ?_; (with_reducible refine (chain_Chain_Least.calls _ _ l0_0 _ _ l0_1 a1 t237 t238 _ ?side1 ?side2 ?side3 ?side4 A17.out).mono ?_); (case side1 => repeat (first | exact (Kd.C_below HR0_0.out HB.out) | (with_reducible refine Kd.C_alloc ?_ _) | (with_reducible refine Kd.C_drewN ?_ _) | (with_reducible refine Kd.C_drew ?_))); (case side2 => exact HC0_0.out); (case side3 => repeat (first | exact (Kd.C_below HR0_1.out HB.out) | (with_reducible refine Kd.C_alloc ?_ _) | (with_reducible refine Kd.C_drewN ?_ _) | (with_reducible refine Kd.C_drew ?_))); (case side4 => exact HC0_1.out); rintro e w85 ⟨rfl, hb⟩; refine ⟨_, rfl, ?_⟩; have n0_ := Aside0.mk (blk_below (g := gb235) (o := .cells #[.slice A0_0 l0_0.length c0_0, .slice A0_1 l0_1.length c0_1] 24 (0, 0)) (by (with_reducible repeat (first | refine blk_drewN ?_ _ | refine blk_drew ?_ | refine blk_alloc ?_ _)); exact BK235.out) hb); have n1_ := Aside0.mk (below_step (by repeat (first | (with_reducible first | exact HB.out | apply below_alloc | apply pw_below_drewN | apply below_drew1 | refine below_set ?_ GE235.out) | exact HB.out)) hb); clear BK235; clear HB; have BK235 := n0_; have HB := n1_; clear n0_ n1_; (try clear hb); (try clear hb2); (try clear hk); (try clear hi); have hcz86_0 : w85.cell? ⟨gb235, 0, none⟩ = some (.slice A0_0 l0_0.length c0_0) := (blk_cell BK235.out 0).trans rfl; have hcz86_1 : w85.cell? ⟨gb235, 1, none⟩ = some (.slice A0_1 l0_1.length c0_1) := (blk_cell BK235.out 1).trans rfl; have hfz86_0 := blk_frozen BK235.out 0; have hfz86_1 := blk_frozen BK235.out 1) | ((with_reducible refine gate_callee (f := 14) rfl ?_); refine goesL_ (some 38) rfl rfl Try.func14 (by kernel_rfl) rfl #[.agg #[.slice A0_0 l0_0.length c0_0, .slice A0_1 l0_1.length c0_1]] rfl (by (try simp only [List.map_toArray, List.map_cons, List.map_nil]); first | done | rfl | (simp only [List.length_drop, List.length_take]; rfl)) ?_; (with_reducible refine (athanorlaw20_right.calls kj2 _ _ l0_0 _ _ l0_1 false _ ?side1 ?side2 ?side3 ?side4 A18.out).mono ?_); (case side1 => repeat (first | exact (Kd.C_below HR0_0.out HB.out) | (with_reducible refine Kd.C_alloc ?_ _) | (with_reducible refine Kd.C_drewN ?_ _) | (with_reducible refine Kd.C_drew ?_))); (case side2 => exact HC0_0.out); (case side3 => repeat (first | exact (Kd.C_below HR0_1.out HB.out) | (with_reducible refine Kd.C_alloc ?_ _) | (with_reducible refine Kd.C_drewN ?_ _) | (with_reducible refine Kd.C_drew ?_))); (case side4 => exact HC0_1.out); rintro e w87 ⟨rfl, hb⟩; refine ⟨_, rfl, ?_⟩; have n0_ := Aside0.mk (blk_below (g := gb235) (o := .cells #[.slice A0_0 l0_0.length c0_0, .slice A0_1 l0_1.length c0_1] 24 (0, 0)) (by (with_reducible repeat (first | refine blk_drewN ?_ _ | refine blk_drew ?_ | refine blk_alloc ?_ _)); exact BK235.out) hb); have n1_ := Aside0.mk (below_step (by repeat (first | (with_reducible first | exact HB.out | apply below_alloc | apply pw_below_drewN | apply below_drew1 | refine below_set ?_ GE235.out) | exact HB.out)) hb); clear BK235; clear HB; have BK235 := n0_; have HB := n1_; clear n0_ n1_; (try clear hb); (try clear hb2); (try clear hk); (try clear hi); have hcz88_0 : w87.cell? ⟨gb235, 0, none⟩ = some (.slice A0_0 l0_0.length c0_0) := (blk_cell BK235.out 0).trans rfl; have hcz88_1 : w87.cell? ⟨gb235, 1, none⟩ = some (.slice A0_1 l0_1.length c0_1) := (blk_cell BK235.out 1).trans rfl; have hfz88_0 := blk_frozen BK235.out 0; have hfz88_1 := blk_frozen BK235.out 1) | (go_at_call 17; (with_reducible refine (chain_Chain_Right.calls _ _ l0_0 _ _ l0_1 false _ ?side1 ?side2 ?side3 ?side4 A71.out).mono ?_); (case side1 => repeat (first | exact (Kd.C_below HR0_0.out HB.out) | (with_reducible refine Kd.C_alloc ?_ _) | (with_reducible refine Kd.C_drewN ?_ _) | (with_reducible refine Kd.C_drew ?_))); (case side2 => exact HC0_0.out); (case side3 => repeat (first | exact (Kd.C_below HR0_1.out HB.out) | (with_reducible refine Kd.C_alloc ?_ _) | (with_reducible refine Kd.C_drewN ?_ _) | (with_reducible refine Kd.C_drew ?_))); (case side4 => exact HC0_1.out); rintro e w89 ⟨rfl, hb⟩; have n0_ := Aside0.mk (blk_below (g := gb235) (o := .cells #[.slice A0_0 l0_0.length c0_0, .slice A0_1 l0_1.length c0_1] 24 (0, 0)) (by (with_reducible repeat (first | refine blk_drewN ?_ _ | refine blk_drew ?_ | refine blk_alloc ?_ _)); exact BK235.out) hb); have n1_ := Aside0.mk (below_step (by repeat (first | (with_reducible first | exact HB.out | apply below_alloc | apply pw_below_drewN | apply below_drew1 | refine below_set ?_ GE235.out) | exact HB.out)) hb); clear BK235; clear HB; have BK235 := n0_; have HB := n1_; clear n0_ n1_; (try clear hb); (try clear hb2); (try clear hk); (try clear hi); have hcz90_0 : w89.cell? ⟨gb235, 0, none⟩ = some (.slice A0_0 l0_0.length c0_0) := (blk_cell BK235.out 0).trans rfl; have hcz90_1 : w89.cell? ⟨gb235, 1, none⟩ = some (.slice A0_1 l0_1.length c0_1) := (blk_cell BK235.out 1).trans rfl; have hfz90_0 := blk_frozen BK235.out 0; have hfz90_1 := blk_frozen BK235.out 1) | (go_at_call 18; (with_reducible refine (chain_Chain_Nodes.calls _ _ l0_0 _ _ l0_1 t241 _ ?side1 ?side2 ?side3 ?side4 A79.out).mono ?_); (case side1 => repeat (first | exact (Kd.C_below HR0_0.out HB.out) | (with_reducible refine Kd.C_alloc ?_ _) | (with_reducible refine Kd.C_drewN ?_ _) | (with_reducible refine Kd.C_drew ?_))); (case side2 => exact HC0_0.out); (case side3 => repeat (first | exact (Kd.C_below HR0_1.out HB.out) | (with_reducible refine Kd.C_alloc ?_ _) | (with_reducible refine Kd.C_drewN ?_ _) | (with_reducible refine Kd.C_drew ?_))); (case side4 => exact HC0_1.out); rintro e w91 ⟨rfl, hb⟩; have n0_ := Aside0.mk (blk_below (g := gb235) (o := .cells #[.slice A0_0 l0_0.length c0_0, .slice A0_1 l0_1.length c0_1] 24 (0, 0)) (by (with_reducible repeat (first | refine blk_drewN ?_ _ | refine blk_drew ?_ | refine blk_alloc ?_ _)); exact BK235.out) hb); have n1_ := Aside0.mk (below_step (by repeat (first | (with_reducible first | exact HB.out | apply below_alloc | apply pw_below_drewN | apply below_drew1 | refine below_set ?_ GE235.out) | exact HB.out)) hb); clear BK235; clear HB; have BK235 := n0_; have HB := n1_; clear n0_ n1_; (try clear hb); (try clear hb2); (try clear hk); (try clear hi); have hcz92_0 : w91.cell? ⟨gb235, 0, none⟩ = some (.slice A0_0 l0_0.length c0_0) := (blk_cell BK235.out 0).trans rfl; have hcz92_1 : w91.cell? ⟨gb235, 1, none⟩ = some (.slice A0_1 l0_1.length c0_1) := (blk_cell BK235.out 1).trans rfl; have hfz92_0 := blk_frozen BK235.out 0; have hfz92_1 := blk_frozen BK235.out 1) | (go_at_call 19; (with_reducible refine (chain_Chain_Total.calls kj2 _ _ l0_0 _ _ l0_1 t242 _ ?side1 ?side2 ?side3 ?side4 A81.out).mono ?_); (case side1 => repeat (first | exact (Kd.C_below HR0_0.out HB.out) | (with_reducible refine Kd.C_alloc ?_ _) | (with_reducible refine Kd.C_drewN ?_ _) | (with_reducible refine Kd.C_drew ?_))); (case side2 => exact HC0_0.out); (case side3 => repeat (first | exact (Kd.C_below HR0_1.out HB.out) | (with_reducible refine Kd.C_alloc ?_ _) | (with_reducible refine Kd.C_drewN ?_ _) | (with_reducible refine Kd.C_drew ?_))); (case side4 => exact HC0_1.out); rintro e w93 ⟨rfl, hb⟩; have n0_ := Aside0.mk (blk_below (g := gb235) (o := .cells #[.slice A0_0 l0_0.length c0_0, .slice A0_1 l0_1.length c0_1] 24 (0, 0)) (by (with_reducible repeat (first | refine blk_drewN ?_ _ | refine blk_drew ?_ | refine blk_alloc ?_ _)); exact BK235.out) hb); have n1_ := Aside0.mk (below_step (by repeat (first | (with_reducible first | exact HB.out | apply below_alloc | apply pw_below_drewN | apply below_drew1 | refine below_set ?_ GE235.out) | exact HB.out)) hb); clear BK235; clear HB; have BK235 := n0_; have HB := n1_; clear n0_ n1_; (try clear hb); (try clear hb2); (try clear hk); (try clear hi)) | (go_at_call 9; (with_reducible refine (athanorlaw20_awake.calls kj2  t243 _ A83.out).mono ?_); rintro e w94 ⟨rfl, hb⟩; have n0_ := Aside0.mk (blk_below (g := gb235) (o := .cells #[.slice A0_0 l0_0.length c0_0, .slice A0_1 l0_1.length c0_1] 24 (0, 0)) (by (with_reducible repeat (first | refine blk_drewN ?_ _ | refine blk_drew ?_ | refine blk_alloc ?_ _)); exact BK235.out) hb); have n1_ := Aside0.mk (below_step (by repeat (first | (with_reducible first | exact HB.out | apply below_alloc | apply pw_below_drewN | apply below_drew1 | refine below_set ?_ GE235.out) | exact HB.out)) hb); clear BK235; clear HB; have BK235 := n0_; have HB := n1_; clear n0_ n1_; (try clear hb); (try clear hb2); (try clear hk); (try clear hi)))
                    go_ret
                    exact ⟨by first | rfl | (simp [errW_none, errW_some] <;> rfl) | (simp [*, errW_none, errW_some] <;> rfl), by repeat (first | (with_reducible first | exact HB.out | apply below_alloc | apply pw_below_drewN | apply below_drew1 | refine below_set ?_ GE235.out) | exact HB.out)⟩
                  · rw [if_neg c82] at H
                    have c82b0 : (t242 == 0) = false := beq_eq_false_iff_ne.mpr c82
                    have c82b1 : (t242 != 0) = true := bne_iff_ne.mpr c82
                    obtain rfl := Option.some.inj H
                    have hcz95_0 : wc.cell? ⟨gb235, 0, none⟩ = some (.slice A0_0 l0_0.length c0_0) := (blk_cell BK235.out 0).trans rfl
                    have hcz95_1 : wc.cell? ⟨gb235, 1, none⟩ = some (.slice A0_1 l0_1.length c0_1) := (blk_cell BK235.out 1).trans rfl
                    have hfz95_0 := blk_frozen BK235.out 0
                    have hfz95_1 := blk_frozen BK235.out 1
                    go_wp2_with (first | ((with_reducible refine gate_callee (f := 10) rfl ?_); refine goesL_ (some 34) rfl rfl Try.func10 (by kernel_rfl) rfl #[.agg #[.slice A0_0 l0_0.length c0_0, .slice A0_1 l0_1.length c0_1], .int .i64 a1] rfl (by (try simp only [List.map_toArray, List.map_cons, List.map_nil]); first | done | rfl | (simp only [List.length_drop, List.length_take]; rfl)) ?_; (with_reducible refine (chain_Chain_Least.calls _ _ l0_0 _ _ l0_1 a1 t237 t238 _ ?side1 ?side2 ?side3 ?side4 A17.out).mono ?_); (case side1 => repeat (first | exact (Kd.C_below HR0_0.out HB.out) | (with_reducible refine Kd.C_alloc ?_ _) | (with_reducible refine Kd.C_drewN ?_ _) | (with_reducible refine Kd.C_drew ?_))); (case side2 => exact HC0_0.out); (case side3 => repeat (first | exact (Kd.C_below HR0_1.out HB.out) | (with_reducible refine Kd.C_alloc ?_ _) | (with_reducible refine Kd.C_drewN ?_ _) | (with_reducible refine Kd.C_drew ?_))); (case side4 => exact HC0_1.out); rintro e w96 ⟨rfl, hb⟩; refine ⟨_, rfl, ?_⟩; have n0_ := Aside0.mk (blk_below (g := gb235) (o := .cells #[.slice A0_0 l0_0.length c0_0, .slice A0_1 l0_1.length c0_1] 24 (0, 0)) (by (with_reducible repeat (first | refine blk_drewN ?_ _ | refine blk_drew ?_ | refine blk_alloc ?_ _)); exact BK235.out) hb); have n1_ := Aside0.mk (below_step (by repeat (first | (with_reducible first | exact HB.out | apply below_alloc | apply pw_below_drewN | apply below_drew1 | refine below_set ?_ GE235.out) | exact HB.out)) hb); clear BK235; clear HB; have BK235 := n0_; have HB := n1_; clear n0_ n1_; (try clear hb); (try clear hb2); (try clear hk); (try clear hi); have hcz97_0 : w96.cell? ⟨gb235, 0, none⟩ = some (.slice A0_0 l0_0.length c0_0) := (blk_cell BK235.out 0).trans rfl; have hcz97_1 : w96.cell? ⟨gb235, 1, none⟩ = some (.slice A0_1 l0_1.length c0_1) := (blk_cell BK235.out 1).trans rfl; have hfz97_0 := blk_frozen BK235.out 0; have hfz97_1 := blk_frozen BK235.out 1) | ((with_reducible refine gate_callee (f := 14) rfl ?_); refine goesL_ (some 38) rfl rfl Try.func14 (by kernel_rfl) rfl #[.agg #[.slice A0_0 l0_0.length c0_0, .slice A0_1 l0_1.length c0_1]] rfl (by (try simp only [List.map_toArray, List.map_cons, List.map_nil]); first | done | rfl | (simp only [List.length_drop, List.length_take]; rfl)) ?_; (with_reducible refine (athanorlaw20_right.calls kj2 _ _ l0_0 _ _ l0_1 false _ ?side1 ?side2 ?side3 ?side4 A18.out).mono ?_); (case side1 => repeat (first | exact (Kd.C_below HR0_0.out HB.out) | (with_reducible refine Kd.C_alloc ?_ _) | (with_reducible refine Kd.C_drewN ?_ _) | (with_reducible refine Kd.C_drew ?_))); (case side2 => exact HC0_0.out); (case side3 => repeat (first | exact (Kd.C_below HR0_1.out HB.out) | (with_reducible refine Kd.C_alloc ?_ _) | (with_reducible refine Kd.C_drewN ?_ _) | (with_reducible refine Kd.C_drew ?_))); (case side4 => exact HC0_1.out); rintro e w98 ⟨rfl, hb⟩; refine ⟨_, rfl, ?_⟩; have n0_ := Aside0.mk (blk_below (g := gb235) (o := .cells #[.slice A0_0 l0_0.length c0_0, .slice A0_1 l0_1.length c0_1] 24 (0, 0)) (by (with_reducible repeat (first | refine blk_drewN ?_ _ | refine blk_drew ?_ | refine blk_alloc ?_ _)); exact BK235.out) hb); have n1_ := Aside0.mk (below_step (by repeat (first | (with_reducible first | exact HB.out | apply below_alloc | apply pw_below_drewN | apply below_drew1 | refine below_set ?_ GE235.out) | exact HB.out)) hb); clear BK235; clear HB; have BK235 := n0_; have HB := n1_; clear n0_ n1_; (try clear hb); (try clear hb2); (try clear hk); (try clear hi); have hcz99_0 : w98.cell? ⟨gb235, 0, none⟩ = some (.slice A0_0 l0_0.length c0_0) := (blk_cell BK235.out 0).trans rfl; have hcz99_1 : w98.cell? ⟨gb235, 1, none⟩ = some (.slice A0_1 l0_1.length c0_1) := (blk_cell BK235.out 1).trans rfl; have hfz99_0 := blk_frozen BK235.out 0; have hfz99_1 := blk_frozen BK235.out 1) | (go_at_call 17; (with_reducible refine (chain_Chain_Right.calls _ _ l0_0 _ _ l0_1 false _ ?side1 ?side2 ?side3 ?side4 A71.out).mono ?_); (case side1 => repeat (first | exact (Kd.C_below HR0_0.out HB.out) | (with_reducible refine Kd.C_alloc ?_ _) | (with_reducible refine Kd.C_drewN ?_ _) | (with_reducible refine Kd.C_drew ?_))); (case side2 => exact HC0_0.out); (case side3 => repeat (first | exact (Kd.C_below HR0_1.out HB.out) | (with_reducible refine Kd.C_alloc ?_ _) | (with_reducible refine Kd.C_drewN ?_ _) | (with_reducible refine Kd.C_drew ?_))); (case side4 => exact HC0_1.out); rintro e w100 ⟨rfl, hb⟩; have n0_ := Aside0.mk (blk_below (g := gb235) (o := .cells #[.slice A0_0 l0_0.length c0_0, .slice A0_1 l0_1.length c0_1] 24 (0, 0)) (by (with_reducible repeat (first | refine blk_drewN ?_ _ | refine blk_drew ?_ | refine blk_alloc ?_ _)); exact BK235.out) hb); have n1_ := Aside0.mk (below_step (by repeat (first | (with_reducible first | exact HB.out | apply below_alloc | apply pw_below_drewN | apply below_drew1 | refine below_set ?_ GE235.out) | exact HB.out)) hb); clear BK235; clear HB; have BK235 := n0_; have HB := n1_; clear n0_ n1_; (try clear hb); (try clear hb2); (try clear hk); (try clear hi); have hcz101_0 : w100.cell? ⟨gb235, 0, none⟩ = some (.slice A0_0 l0_0.length c0_0) := (blk_cell BK235.out 0).trans rfl; have hcz101_1 : w100.cell? ⟨gb235, 1, none⟩ = some (.slice A0_1 l0_1.length c0_1) := (blk_cell BK235.out 1).trans rfl; have hfz101_0 := blk_frozen BK235.out 0; have hfz101_1 := blk_frozen BK235.out 1) | (go_at_call 18; (with_reducible refine (chain_Chain_Nodes.calls _ _ l0_0 _ _ l0_1 t241 _ ?side1 ?side2 ?side3 ?side4 A79.out).mono ?_); (case side1 => repeat (first | exact (Kd.C_below HR0_0.out HB.out) | (with_reducible refine Kd.C_alloc ?_ _) | (with_reducible refine Kd.C_drewN ?_ _) | (with_reducible refine Kd.C_drew ?_))); (case side2 => exact HC0_0.out); (case side3 => repeat (first | exact (Kd.C_below HR0_1.out HB.out) | (with_reducible refine Kd.C_alloc ?_ _) | (with_reducible refine Kd.C_drewN ?_ _) | (with_reducible refine Kd.C_drew ?_))); (case side4 => exact HC0_1.out); rintro e w102 ⟨rfl, hb⟩; have n0_ := Aside0.mk (blk_below (g := gb235) (o := .cells #[.slice A0_0 l0_0.length c0_0, .slice A0_1 l0_1.length c0_1] 24 (0, 0)) (by (with_reducible repeat (first | refine blk_drewN ?_ _ | refine blk_drew ?_ | refine blk_alloc ?_ _)); exact BK235.out) hb); have n1_ := Aside0.mk (below_step (by repeat (first | (with_reducible first | exact HB.out | apply below_alloc | apply pw_below_drewN | apply below_drew1 | refine below_set ?_ GE235.out) | exact HB.out)) hb); clear BK235; clear HB; have BK235 := n0_; have HB := n1_; clear n0_ n1_; (try clear hb); (try clear hb2); (try clear hk); (try clear hi); have hcz103_0 : w102.cell? ⟨gb235, 0, none⟩ = some (.slice A0_0 l0_0.length c0_0) := (blk_cell BK235.out 0).trans rfl; have hcz103_1 : w102.cell? ⟨gb235, 1, none⟩ = some (.slice A0_1 l0_1.length c0_1) := (blk_cell BK235.out 1).trans rfl; have hfz103_0 := blk_frozen BK235.out 0; have hfz103_1 := blk_frozen BK235.out 1) | (go_at_call 19; (with_reducible refine (chain_Chain_Total.calls kj2 _ _ l0_0 _ _ l0_1 t242 _ ?side1 ?side2 ?side3 ?side4 A81.out).mono ?_); (case side1 => repeat (first | exact (Kd.C_below HR0_0.out HB.out) | (with_reducible refine Kd.C_alloc ?_ _) | (with_reducible refine Kd.C_drewN ?_ _) | (with_reducible refine Kd.C_drew ?_))); (case side2 => exact HC0_0.out); (case side3 => repeat (first | exact (Kd.C_below HR0_1.out HB.out) | (with_reducible refine Kd.C_alloc ?_ _) | (with_reducible refine Kd.C_drewN ?_ _) | (with_reducible refine Kd.C_drew ?_))); (case side4 => exact HC0_1.out); rintro e w104 ⟨rfl, hb⟩; have n0_ := Aside0.mk (blk_below (g := gb235) (o := .cells #[.slice A0_0 l0_0.length c0_0, .slice A0_1 l0_1.length c0_1] 24 (0, 0)) (by (with_reducible repeat (first | refine blk_drewN ?_ _ | refine blk_drew ?_ | refine blk_alloc ?_ _)); exact BK235.out) hb); have n1_ := Aside0.mk (below_step (by repeat (first | (with_reducible first | exact HB.out | apply below_alloc | apply pw_below_drewN | apply below_drew1 | refine below_set ?_ GE235.out) | exact HB.out)) hb); clear BK235; clear HB; have BK235 := n0_; have HB := n1_; clear n0_ n1_; (try clear hb); (try clear hb2); (try clear hk); (try clear hi)))
                    go_ret
                    exact ⟨by first | rfl | (simp [errW_none, errW_some] <;> rfl) | (simp [*, errW_none, errW_some] <;> rfl), by repeat (first | (with_reducible first | exact HB.out | apply below_alloc | apply pw_below_drewN | apply below_drew1 | refine below_set ?_ GE235.out) | exact HB.out)⟩
                · rw [if_neg c80] at H
                  have c80b0 : (t241 == 0) = false := beq_eq_false_iff_ne.mpr c80
                  have c80b1 : (t241 != 0) = true := bne_iff_ne.mpr c80
                  obtain rfl := Option.some.inj H
                  have hcz105_0 : wc.cell? ⟨gb235, 0, none⟩ = some (.slice A0_0 l0_0.length c0_0) := (blk_cell BK235.out 0).trans rfl
                  have hcz105_1 : wc.cell? ⟨gb235, 1, none⟩ = some (.slice A0_1 l0_1.length c0_1) := (blk_cell BK235.out 1).trans rfl
                  have hfz105_0 := blk_frozen BK235.out 0
                  have hfz105_1 := blk_frozen BK235.out 1
                  go_wp2_with (first | ((with_reducible refine gate_callee (f := 10) rfl ?_); refine goesL_ (some 34) rfl rfl Try.func10 (by kernel_rfl) rfl #[.agg #[.slice A0_0 l0_0.length c0_0, .slice A0_1 l0_1.length c0_1], .int .i64 a1] rfl (by (try simp only [List.map_toArray, List.map_cons, List.map_nil]); first | done | rfl | (simp only [List.length_drop, List.length_take]; rfl)) ?_; (with_reducible refine (chain_Chain_Least.calls _ _ l0_0 _ _ l0_1 a1 t237 t238 _ ?side1 ?side2 ?side3 ?side4 A17.out).mono ?_); (case side1 => repeat (first | exact (Kd.C_below HR0_0.out HB.out) | (with_reducible refine Kd.C_alloc ?_ _) | (with_reducible refine Kd.C_drewN ?_ _) | (with_reducible refine Kd.C_drew ?_))); (case side2 => exact HC0_0.out); (case side3 => repeat (first | exact (Kd.C_below HR0_1.out HB.out) | (with_reducible refine Kd.C_alloc ?_ _) | (with_reducible refine Kd.C_drewN ?_ _) | (with_reducible refine Kd.C_drew ?_))); (case side4 => exact HC0_1.out); rintro e w106 ⟨rfl, hb⟩; refine ⟨_, rfl, ?_⟩; have n0_ := Aside0.mk (blk_below (g := gb235) (o := .cells #[.slice A0_0 l0_0.length c0_0, .slice A0_1 l0_1.length c0_1] 24 (0, 0)) (by (with_reducible repeat (first | refine blk_drewN ?_ _ | refine blk_drew ?_ | refine blk_alloc ?_ _)); exact BK235.out) hb); have n1_ := Aside0.mk (below_step (by repeat (first | (with_reducible first | exact HB.out | apply below_alloc | apply pw_below_drewN | apply below_drew1 | refine below_set ?_ GE235.out) | exact HB.out)) hb); clear BK235; clear HB; have BK235 := n0_; have HB := n1_; clear n0_ n1_; (try clear hb); (try clear hb2); (try clear hk); (try clear hi); have hcz107_0 : w106.cell? ⟨gb235, 0, none⟩ = some (.slice A0_0 l0_0.length c0_0) := (blk_cell BK235.out 0).trans rfl; have hcz107_1 : w106.cell? ⟨gb235, 1, none⟩ = some (.slice A0_1 l0_1.length c0_1) := (blk_cell BK235.out 1).trans rfl; have hfz107_0 := blk_frozen BK235.out 0; have hfz107_1 := blk_frozen BK235.out 1) | ((with_reducible refine gate_callee (f := 14) rfl ?_); refine goesL_ (some 38) rfl rfl Try.func14 (by kernel_rfl) rfl #[.agg #[.slice A0_0 l0_0.length c0_0, .slice A0_1 l0_1.length c0_1]] rfl (by (try simp only [List.map_toArray, List.map_cons, List.map_nil]); first | done | rfl | (simp only [List.length_drop, List.length_take]; rfl)) ?_; (with_reducible refine (athanorlaw20_right.calls kj2 _ _ l0_0 _ _ l0_1 false _ ?side1 ?side2 ?side3 ?side4 A18.out).mono ?_); (case side1 => repeat (first | exact (Kd.C_below HR0_0.out HB.out) | (with_reducible refine Kd.C_alloc ?_ _) | (with_reducible refine Kd.C_drewN ?_ _) | (with_reducible refine Kd.C_drew ?_))); (case side2 => exact HC0_0.out); (case side3 => repeat (first | exact (Kd.C_below HR0_1.out HB.out) | (with_reducible refine Kd.C_alloc ?_ _) | (with_reducible refine Kd.C_drewN ?_ _) | (with_reducible refine Kd.C_drew ?_))); (case side4 => exact HC0_1.out); rintro e w108 ⟨rfl, hb⟩; refine ⟨_, rfl, ?_⟩; have n0_ := Aside0.mk (blk_below (g := gb235) (o := .cells #[.slice A0_0 l0_0.length c0_0, .slice A0_1 l0_1.length c0_1] 24 (0, 0)) (by (with_reducible repeat (first | refine blk_drewN ?_ _ | refine blk_drew ?_ | refine blk_alloc ?_ _)); exact BK235.out) hb); have n1_ := Aside0.mk (below_step (by repeat (first | (with_reducible first | exact HB.out | apply below_alloc | apply pw_below_drewN | apply below_drew1 | refine below_set ?_ GE235.out) | exact HB.out)) hb); clear BK235; clear HB; have BK235 := n0_; have HB := n1_; clear n0_ n1_; (try clear hb); (try clear hb2); (try clear hk); (try clear hi); have hcz109_0 : w108.cell? ⟨gb235, 0, none⟩ = some (.slice A0_0 l0_0.length c0_0) := (blk_cell BK235.out 0).trans rfl; have hcz109_1 : w108.cell? ⟨gb235, 1, none⟩ = some (.slice A0_1 l0_1.length c0_1) := (blk_cell BK235.out 1).trans rfl; have hfz109_0 := blk_frozen BK235.out 0; have hfz109_1 := blk_frozen BK235.out 1) | (go_at_call 17; (with_reducible refine (chain_Chain_Right.calls _ _ l0_0 _ _ l0_1 false _ ?side1 ?side2 ?side3 ?side4 A71.out).mono ?_); (case side1 => repeat (first | exact (Kd.C_below HR0_0.out HB.out) | (with_reducible refine Kd.C_alloc ?_ _) | (with_reducible refine Kd.C_drewN ?_ _) | (with_reducible refine Kd.C_drew ?_))); (case side2 => exact HC0_0.out); (case side3 => repeat (first | exact (Kd.C_below HR0_1.out HB.out) | (with_reducible refine Kd.C_alloc ?_ _) | (with_reducible refine Kd.C_drewN ?_ _) | (with_reducible refine Kd.C_drew ?_))); (case side4 => exact HC0_1.out); rintro e w110 ⟨rfl, hb⟩; have n0_ := Aside0.mk (blk_below (g := gb235) (o := .cells #[.slice A0_0 l0_0.length c0_0, .slice A0_1 l0_1.length c0_1] 24 (0, 0)) (by (with_reducible repeat (first | refine blk_drewN ?_ _ | refine blk_drew ?_ | refine blk_alloc ?_ _)); exact BK235.out) hb); have n1_ := Aside0.mk (below_step (by repeat (first | (with_reducible first | exact HB.out | apply below_alloc | apply pw_below_drewN | apply below_drew1 | refine below_set ?_ GE235.out) | exact HB.out)) hb); clear BK235; clear HB; have BK235 := n0_; have HB := n1_; clear n0_ n1_; (try clear hb); (try clear hb2); (try clear hk); (try clear hi); have hcz111_0 : w110.cell? ⟨gb235, 0, none⟩ = some (.slice A0_0 l0_0.length c0_0) := (blk_cell BK235.out 0).trans rfl; have hcz111_1 : w110.cell? ⟨gb235, 1, none⟩ = some (.slice A0_1 l0_1.length c0_1) := (blk_cell BK235.out 1).trans rfl; have hfz111_0 := blk_frozen BK235.out 0; have hfz111_1 := blk_frozen BK235.out 1) | (go_at_call 18; (with_reducible refine (chain_Chain_Nodes.calls _ _ l0_0 _ _ l0_1 t241 _ ?side1 ?side2 ?side3 ?side4 A79.out).mono ?_); (case side1 => repeat (first | exact (Kd.C_below HR0_0.out HB.out) | (with_reducible refine Kd.C_alloc ?_ _) | (with_reducible refine Kd.C_drewN ?_ _) | (with_reducible refine Kd.C_drew ?_))); (case side2 => exact HC0_0.out); (case side3 => repeat (first | exact (Kd.C_below HR0_1.out HB.out) | (with_reducible refine Kd.C_alloc ?_ _) | (with_reducible refine Kd.C_drewN ?_ _) | (with_reducible refine Kd.C_drew ?_))); (case side4 => exact HC0_1.out); rintro e w112 ⟨rfl, hb⟩; have n0_ := Aside0.mk (blk_below (g := gb235) (o := .cells #[.slice A0_0 l0_0.length c0_0, .slice A0_1 l0_1.length c0_1] 24 (0, 0)) (by (with_reducible repeat (first | refine blk_drewN ?_ _ | refine blk_drew ?_ | refine blk_alloc ?_ _)); exact BK235.out) hb); have n1_ := Aside0.mk (below_step (by repeat (first | (with_reducible first | exact HB.out | apply below_alloc | apply pw_below_drewN | apply below_drew1 | refine below_set ?_ GE235.out) | exact HB.out)) hb); clear BK235; clear HB; have BK235 := n0_; have HB := n1_; clear n0_ n1_; (try clear hb); (try clear hb2); (try clear hk); (try clear hi)))
                  go_ret
                  exact ⟨by first | rfl | (simp [errW_none, errW_some] <;> rfl) | (simp [*, errW_none, errW_some] <;> rfl), by repeat (first | (with_reducible first | exact HB.out | apply below_alloc | apply pw_below_drewN | apply below_drew1 | refine below_set ?_ GE235.out) | exact HB.out)⟩
            · rw [if_neg c70] at H
              have c70b0 : (t237 == 0) = false := beq_eq_false_iff_ne.mpr c70
              have c70b1 : (t237 != 0) = true := bne_iff_ne.mpr c70
              obtain rfl := Option.some.inj H
              have hcz113_0 : wc.cell? ⟨gb235, 0, none⟩ = some (.slice A0_0 l0_0.length c0_0) := (blk_cell BK235.out 0).trans rfl
              have hcz113_1 : wc.cell? ⟨gb235, 1, none⟩ = some (.slice A0_1 l0_1.length c0_1) := (blk_cell BK235.out 1).trans rfl
              have hfz113_0 := blk_frozen BK235.out 0
              have hfz113_1 := blk_frozen BK235.out 1
              go_wp2_with (first | ((with_reducible refine gate_callee (f := 10) rfl ?_); refine goesL_ (some 34) rfl rfl Try.func10 (by kernel_rfl) rfl #[.agg #[.slice A0_0 l0_0.length c0_0, .slice A0_1 l0_1.length c0_1], .int .i64 a1] rfl (by (try simp only [List.map_toArray, List.map_cons, List.map_nil]); first | done | rfl | (simp only [List.length_drop, List.length_take]; rfl)) ?_; (with_reducible refine (chain_Chain_Least.calls _ _ l0_0 _ _ l0_1 a1 t237 t238 _ ?side1 ?side2 ?side3 ?side4 A17.out).mono ?_); (case side1 => repeat (first | exact (Kd.C_below HR0_0.out HB.out) | (with_reducible refine Kd.C_alloc ?_ _) | (with_reducible refine Kd.C_drewN ?_ _) | (with_reducible refine Kd.C_drew ?_))); (case side2 => exact HC0_0.out); (case side3 => repeat (first | exact (Kd.C_below HR0_1.out HB.out) | (with_reducible refine Kd.C_alloc ?_ _) | (with_reducible refine Kd.C_drewN ?_ _) | (with_reducible refine Kd.C_drew ?_))); (case side4 => exact HC0_1.out); rintro e w114 ⟨rfl, hb⟩; refine ⟨_, rfl, ?_⟩; have n0_ := Aside0.mk (blk_below (g := gb235) (o := .cells #[.slice A0_0 l0_0.length c0_0, .slice A0_1 l0_1.length c0_1] 24 (0, 0)) (by (with_reducible repeat (first | refine blk_drewN ?_ _ | refine blk_drew ?_ | refine blk_alloc ?_ _)); exact BK235.out) hb); have n1_ := Aside0.mk (below_step (by repeat (first | (with_reducible first | exact HB.out | apply below_alloc | apply pw_below_drewN | apply below_drew1 | refine below_set ?_ GE235.out) | exact HB.out)) hb); clear BK235; clear HB; have BK235 := n0_; have HB := n1_; clear n0_ n1_; (try clear hb); (try clear hb2); (try clear hk); (try clear hi); have hcz115_0 : w114.cell? ⟨gb235, 0, none⟩ = some (.slice A0_0 l0_0.length c0_0) := (blk_cell BK235.out 0).trans rfl; have hcz115_1 : w114.cell? ⟨gb235, 1, none⟩ = some (.slice A0_1 l0_1.length c0_1) := (blk_cell BK235.out 1).trans rfl; have hfz115_0 := blk_frozen BK235.out 0; have hfz115_1 := blk_frozen BK235.out 1) | ((with_reducible refine gate_callee (f := 14) rfl ?_); refine goesL_ (some 38) rfl rfl Try.func14 (by kernel_rfl) rfl #[.agg #[.slice A0_0 l0_0.length c0_0, .slice A0_1 l0_1.length c0_1]] rfl (by (try simp only [List.map_toArray, List.map_cons, List.map_nil]); first | done | rfl | (simp only [List.length_drop, List.length_take]; rfl)) ?_; (with_reducible refine (athanorlaw20_right.calls kj2 _ _ l0_0 _ _ l0_1 false _ ?side1 ?side2 ?side3 ?side4 A18.out).mono ?_); (case side1 => repeat (first | exact (Kd.C_below HR0_0.out HB.out) | (with_reducible refine Kd.C_alloc ?_ _) | (with_reducible refine Kd.C_drewN ?_ _) | (with_reducible refine Kd.C_drew ?_))); (case side2 => exact HC0_0.out); (case side3 => repeat (first | exact (Kd.C_below HR0_1.out HB.out) | (with_reducible refine Kd.C_alloc ?_ _) | (with_reducible refine Kd.C_drewN ?_ _) | (with_reducible refine Kd.C_drew ?_))); (case side4 => exact HC0_1.out); rintro e w116 ⟨rfl, hb⟩; refine ⟨_, rfl, ?_⟩; have n0_ := Aside0.mk (blk_below (g := gb235) (o := .cells #[.slice A0_0 l0_0.length c0_0, .slice A0_1 l0_1.length c0_1] 24 (0, 0)) (by (with_reducible repeat (first | refine blk_drewN ?_ _ | refine blk_drew ?_ | refine blk_alloc ?_ _)); exact BK235.out) hb); have n1_ := Aside0.mk (below_step (by repeat (first | (with_reducible first | exact HB.out | apply below_alloc | apply pw_below_drewN | apply below_drew1 | refine below_set ?_ GE235.out) | exact HB.out)) hb); clear BK235; clear HB; have BK235 := n0_; have HB := n1_; clear n0_ n1_; (try clear hb); (try clear hb2); (try clear hk); (try clear hi)))
              go_ret
              exact ⟨by first | rfl | (simp [errW_none, errW_some] <;> rfl) | (simp [*, errW_none, errW_some] <;> rfl), by repeat (first | (with_reducible first | exact HB.out | apply below_alloc | apply pw_below_drewN | apply below_drew1 | refine below_set ?_ GE235.out) | exact HB.out)⟩
          · rw [if_neg c69] at H
            have c69b0 : (t238 == 10) = false := beq_eq_false_iff_ne.mpr c69
            have c69b1 : (t238 != 10) = true := bne_iff_ne.mpr c69
            obtain rfl := Option.some.inj H
            have hcz117_0 : wc.cell? ⟨gb235, 0, none⟩ = some (.slice A0_0 l0_0.length c0_0) := (blk_cell BK235.out 0).trans rfl
            have hcz117_1 : wc.cell? ⟨gb235, 1, none⟩ = some (.slice A0_1 l0_1.length c0_1) := (blk_cell BK235.out 1).trans rfl
            have hfz117_0 := blk_frozen BK235.out 0
            have hfz117_1 := blk_frozen BK235.out 1
            go_wp2_with (first | ((with_reducible refine gate_callee (f := 10) rfl ?_); refine goesL_ (some 34) rfl rfl Try.func10 (by kernel_rfl) rfl #[.agg #[.slice A0_0 l0_0.length c0_0, .slice A0_1 l0_1.length c0_1], .int .i64 a1] rfl (by (try simp only [List.map_toArray, List.map_cons, List.map_nil]); first | done | rfl | (simp only [List.length_drop, List.length_take]; rfl)) ?_; (with_reducible refine (chain_Chain_Least.calls _ _ l0_0 _ _ l0_1 a1 t237 t238 _ ?side1 ?side2 ?side3 ?side4 A17.out).mono ?_); (case side1 => repeat (first | exact (Kd.C_below HR0_0.out HB.out) | (with_reducible refine Kd.C_alloc ?_ _) | (with_reducible refine Kd.C_drewN ?_ _) | (with_reducible refine Kd.C_drew ?_))); (case side2 => exact HC0_0.out); (case side3 => repeat (first | exact (Kd.C_below HR0_1.out HB.out) | (with_reducible refine Kd.C_alloc ?_ _) | (with_reducible refine Kd.C_drewN ?_ _) | (with_reducible refine Kd.C_drew ?_))); (case side4 => exact HC0_1.out); rintro e w118 ⟨rfl, hb⟩; refine ⟨_, rfl, ?_⟩; have n0_ := Aside0.mk (blk_below (g := gb235) (o := .cells #[.slice A0_0 l0_0.length c0_0, .slice A0_1 l0_1.length c0_1] 24 (0, 0)) (by (with_reducible repeat (first | refine blk_drewN ?_ _ | refine blk_drew ?_ | refine blk_alloc ?_ _)); exact BK235.out) hb); have n1_ := Aside0.mk (below_step (by repeat (first | (with_reducible first | exact HB.out | apply below_alloc | apply pw_below_drewN | apply below_drew1 | refine below_set ?_ GE235.out) | exact HB.out)) hb); clear BK235; clear HB; have BK235 := n0_; have HB := n1_; clear n0_ n1_; (try clear hb); (try clear hb2); (try clear hk); (try clear hi); have hcz119_0 : w118.cell? ⟨gb235, 0, none⟩ = some (.slice A0_0 l0_0.length c0_0) := (blk_cell BK235.out 0).trans rfl; have hcz119_1 : w118.cell? ⟨gb235, 1, none⟩ = some (.slice A0_1 l0_1.length c0_1) := (blk_cell BK235.out 1).trans rfl; have hfz119_0 := blk_frozen BK235.out 0; have hfz119_1 := blk_frozen BK235.out 1) | ((with_reducible refine gate_callee (f := 14) rfl ?_); refine goesL_ (some 38) rfl rfl Try.func14 (by kernel_rfl) rfl #[.agg #[.slice A0_0 l0_0.length c0_0, .slice A0_1 l0_1.length c0_1]] rfl (by (try simp only [List.map_toArray, List.map_cons, List.map_nil]); first | done | rfl | (simp only [List.length_drop, List.length_take]; rfl)) ?_; (with_reducible refine (athanorlaw20_right.calls kj2 _ _ l0_0 _ _ l0_1 false _ ?side1 ?side2 ?side3 ?side4 A18.out).mono ?_); (case side1 => repeat (first | exact (Kd.C_below HR0_0.out HB.out) | (with_reducible refine Kd.C_alloc ?_ _) | (with_reducible refine Kd.C_drewN ?_ _) | (with_reducible refine Kd.C_drew ?_))); (case side2 => exact HC0_0.out); (case side3 => repeat (first | exact (Kd.C_below HR0_1.out HB.out) | (with_reducible refine Kd.C_alloc ?_ _) | (with_reducible refine Kd.C_drewN ?_ _) | (with_reducible refine Kd.C_drew ?_))); (case side4 => exact HC0_1.out); rintro e w120 ⟨rfl, hb⟩; refine ⟨_, rfl, ?_⟩; have n0_ := Aside0.mk (blk_below (g := gb235) (o := .cells #[.slice A0_0 l0_0.length c0_0, .slice A0_1 l0_1.length c0_1] 24 (0, 0)) (by (with_reducible repeat (first | refine blk_drewN ?_ _ | refine blk_drew ?_ | refine blk_alloc ?_ _)); exact BK235.out) hb); have n1_ := Aside0.mk (below_step (by repeat (first | (with_reducible first | exact HB.out | apply below_alloc | apply pw_below_drewN | apply below_drew1 | refine below_set ?_ GE235.out) | exact HB.out)) hb); clear BK235; clear HB; have BK235 := n0_; have HB := n1_; clear n0_ n1_; (try clear hb); (try clear hb2); (try clear hk); (try clear hi)))
            go_ret
            exact ⟨by first | rfl | (simp [errW_none, errW_some] <;> rfl) | (simp [*, errW_none, errW_some] <;> rfl), by repeat (first | (with_reducible first | exact HB.out | apply below_alloc | apply pw_below_drewN | apply below_drew1 | refine below_set ?_ GE235.out) | exact HB.out)⟩
end Go.Proofs.Ytiejdbdbafmccaa.PCh
/- part ChLawB -/
namespace Go.Proofs.Ytiejdbdbafmccaa
open Go.RowKit Go.Proofs.YtiejdbdbafmccaaW.PrintWords Go.Proofs.Ytiejdbdbafmccaa.PCh
theorem wm1 (k : Nat) (h : 1 ≤ k) (h2 : k ≤ 1000) : wrap64 ((k : Int) - 1) = ((k - 1 : Nat) : Int) := by rw [wr64 (by omega) (by omega)]; omega
def RefOk (ws cs : List Int) (l r : Nat) (m : Int) : Prop := Ev (fun K => athanorref20_Least.f K ws cs (l : Int) (r : Int) m) (ans ws cs l r m).1
theorem ref_loop {ws cs : List Int} (h : Rt ws cs) {l r : Nat} {m : Int} (hr : r ≤ cs.length) (hm0 : -4259840 ≤ m) (hm1 : m ≤ 4096) (ih1 : ∀ k, l < k → k < r → RefOk ws cs k r (m - ws.getD k 0)) (ih2 : ∀ k, l < k → k < r → RefOk ws cs l k m) : ∀ (f k : Nat) (wk : Int) (best : Int × Int), f = r - k → l < k → k ≤ r → 0 ≤ wk → wk ≤ (k - 1 - l : Nat) * 1099511627776 → Ok (r - l) best →
    Ev (fun K => athanorref20_Least.l0 K ws cs (l : Int) (r : Int) m (gP ws cs.length r) best.1 wk (k : Int)) (loopP (ans ws cs) ws cs l r m f k wk best).1 := by
  intro f
  induction f with
  | zero =>
    intro k wk best hf hl hk _ _ _
    unfold loopP
    exact Ev.step (fun K => by rw [athanorref20_Least.l0, if_neg (by omega)]) (Ev.now _)
  | succ f ihl =>
    intro k wk best hf hl hk hw hw2 hb
    have hhi := h.hi
    have hln := h.len
    have hkr : k < r := by omega
    have b1 := ws_bd h k
    have b2 := ws_bd h (k - 1)
    have b3 := gP_bd h r
    have b4 := cs_bd h (k - 1)
    have hwk : wrap64 (wk + cs.getD (k - 1) 0) = wk + cs.getD (k - 1) 0 := wr64 (by omega) (by omega)
    have hmk : wrap64 (m - ws.getD k 0) = m - ws.getD k 0 := wr64 (by omega) (by omega)
    have n1 : 0 ≤ wk + cs.getD (k - 1) 0 := by omega
    have n2 : wk + cs.getD (k - 1) 0 ≤ (k + 1 - 1 - l : Nat) * 1099511627776 := by omega
    have n3 : wk + cs.getD (k - 1) 0 ≤ (k - l : Nat) * 1099511627776 := by omega
    have hrk := rnd_ok h (A := ans ws cs) (l := l) (r := r) (m := m) (k := k) (wk := wk + cs.getD (k - 1) 0) (best := best) (by omega) hl hkr (ans_ok h _ hkr (by omega)) (ans_ok h _ hl (by omega)) ⟨n1, n3⟩ hb
    have ihf := ihl (k + 1) (wk + cs.getD (k - 1) 0) (rnd (ans ws cs) ws l r m k (wk + cs.getD (k - 1) 0) best) (by omega) (by omega) (by omega) n1 n2 hrk
    have hj : Ev (fun K => athanorref20_Least.j3 K ws cs (l : Int) (r : Int) m (gP ws cs.length r) best.1 wk (k : Int) (needStep ws cs l r (k - 1))) (loopP (ans ws cs) ws cs l r m (f + 1) k wk best).1 := by
      by_cases hs : needStep ws cs l r (k - 1) ≤ m
      · have e : loopP (ans ws cs) ws cs l r m (f + 1) k wk best = loopP (ans ws cs) ws cs l r m f (k + 1) (wk + cs.getD (k - 1) 0) (rnd (ans ws cs) ws l r m k (wk + cs.getD (k - 1) 0) best) := by
          conv => lhs; unfold loopP
          rw [if_pos ⟨hkr, hs⟩]
        rw [e]
        refine Ev.step (fun K => by rw [athanorref20_Least.j3, if_neg (by omega), wm1 k (by omega) (by omega), if_pos (by omega), if_pos (by omega), if_pos (by omega), if_pos (by omega), rd_nat, rd_nat, hwk, hmk, w1 k (by omega)]) ?_
        refine Ev.bind (ih1 k hl hkr) ?_
        unfold rnd at ihf
        have hA := ans_nn h (l := k) (r := r) (m - ws.getD k 0) (by omega)
        have hB := ans_nn h (l := l) (r := k) m (by omega)
        have oA := ok_le (ans_ok h (l := k) (r := r) (m - ws.getD k 0) hkr (by omega)) (by omega)
        have oB := ok_le (ans_ok h (l := l) (r := k) m hl (by omega)) (by omega)
        have ob := ok_le hb (by omega)
        unfold rnd
        by_cases h1 : (ans ws cs k r (m - ws.getD k 0)).1 = -1
        · rw [if_pos h1] at ihf
          rw [if_pos h1]
          refine Ev.congr (fun K => by rw [if_pos (by omega)]) ihf
        · rw [if_neg h1] at ihf
          rw [if_neg h1]
          refine Ev.congr (fun K => by rw [if_neg (by omega)]) ?_
          refine Ev.bind (ih2 k hl hkr) ?_
          by_cases h2 : (ans ws cs l k m).1 = -1
          · rw [if_pos h2] at ihf
            rw [if_pos h2]
            exact Ev.congr (fun K => by rw [if_pos (by omega)]) ihf
          · rw [if_neg h2] at ihf
            rw [if_neg h2]
            have hsum : wrap64 (wrap64 (wk + cs.getD (k - 1) 0 + (ans ws cs k r (m - ws.getD k 0)).1) + (ans ws cs l k m).1) = wk + cs.getD (k - 1) 0 + (ans ws cs k r (m - ws.getD k 0)).1 + (ans ws cs l k m).1 := by
              rw [wr64 (x := wk + cs.getD (k - 1) 0 + (ans ws cs k r (m - ws.getD k 0)).1) (by omega) (by omega), wr64 (by omega) (by omega)]
            refine Ev.congr (fun K => by rw [if_neg (by omega), hsum]) ?_
            unfold best' at ihf ⊢
            have hbb := hb.1
            by_cases h3 : best.1 = -1
            · rw [if_pos (Or.inl h3)] at ihf
              rw [if_pos (Or.inl h3)]
              exact Ev.congr (fun K => by rw [if_pos (by omega)]) ihf
            · have h3' : ¬ best.1 < 0 := by omega
              by_cases h4 : wk + cs.getD (k - 1) 0 + (ans ws cs k r (m - ws.getD k 0)).1 + (ans ws cs l k m).1 < best.1
              · rw [if_pos (Or.inr h4)] at ihf
                rw [if_pos (Or.inr h4)]
                exact Ev.congr (fun K => by rw [if_neg h3', if_pos h4]) ihf
              · rw [if_neg (fun hh => hh.elim h3 h4)] at ihf
                rw [if_neg (fun hh => hh.elim h3 h4)]
                exact Ev.congr (fun K => by rw [if_neg h3', if_neg h4]) ihf
      · rw [loop_stop (fun hh => hs hh.2)]
        exact Ev.step (fun K => by rw [athanorref20_Least.j3, if_pos (by omega)]) (Ev.now _)
    unfold needStep at hj
    rw [show k - 1 + 1 = k from by omega] at hj
    by_cases hlk : l < k - 1
    · rw [if_pos hlk] at hj
      refine Ev.step (fun K => by rw [athanorref20_Least.l0, if_pos (by omega), if_pos (by omega), if_pos (by omega), wm1 k (by omega) (by omega), if_pos (by omega), if_pos (by omega), if_pos (by omega), rd_nat, rd_nat, wr64 (x := ws.getD k 0 + gP ws cs.length r) (by omega) (by omega), wr64 (by omega) (by omega)]) hj
    · rw [if_neg hlk] at hj
      refine Ev.step (fun K => by rw [athanorref20_Least.l0, if_pos (by omega), if_pos (by omega), if_pos (by omega), wm1 k (by omega) (by omega), if_neg (by omega), rd_nat, wr64 (x := ws.getD k 0 + gP ws cs.length r) (by omega) (by omega)]) hj
theorem ref_least {ws cs : List Int} (h : Rt ws cs) : ∀ (d l r : Nat) (m : Int), r - l ≤ d → l < r → r ≤ cs.length → -65536 * (l : Int) ≤ m → m ≤ 4096 → RefOk ws cs l r m := by
  intro d
  induction d with
  | zero => intro l r m hd hl _ _ _; omega
  | succ d ihd =>
    intro l r m hd hl hr hm0 hm1
    have hhi := h.hi
    have hln := h.len
    have b1 := ws_bd h r
    have b3 := gP_bd h r
    have b5 := oP_bd h l
    have hj1 : Ev (fun K => athanorref20_Least.j1 K ws cs (l : Int) (r : Int) m (cs.length : Int) (gP ws cs.length r) (oP ws l)) (ans ws cs l r m).1 := by
      by_cases he : r = l + 1
      · rw [ans_one he]
        unfold oneP needOne costOne
        have E1 : Hid (((r : Nat) : Int) = wrap64 ((l : Int) + 1)) := Lib.hid (by rw [w1 l (by omega), he])
        by_cases hrn : r = cs.length
        · rw [if_pos hrn, if_pos hrn]
          have x1 : (r : Int) = (cs.length : Int) := by omega
          have x2 : (0 : Int) ≤ (cs.length : Int) := by omega
          have x3 : (cs.length : Int) < (ws.length : Int) := by omega
          have x4 : (0 : Int) ≤ ((r - 1 : Nat) : Int) := by omega
          have x5 : ((r - 1 : Nat) : Int) < (cs.length : Int) := by omega
          have x6 : rd ws (cs.length : Int) = ws.getD r 0 := by rw [← x1, rd_nat]
          have x7 : rd cs ((r - 1 : Nat) : Int) = cs.getD (r - 1) 0 := rd_nat _ _
          have e2 : Hid (wrap64 ((cs.length : Int) - 1) = ((r - 1 : Nat) : Int)) := Lib.hid (by rw [← hrn]; exact wm1 r (by omega) (by omega))
          have e3 : Hid (wrap64 (ws.getD r 0 + oP ws l) = ws.getD r 0 + oP ws l) := Lib.hid (wr64 (by omega) (by omega))
          by_cases hq : m < ws.getD r 0 + oP ws l
          · rw [if_pos hq]
            refine Ev.step (fun K => by rw [athanorref20_Least.j1, if_pos E1.out, if_pos x1, if_pos x2, if_pos x3, x6, e3.out, if_pos hq]) (Ev.now _)
          · rw [if_neg hq]
            refine Ev.step (fun K => by rw [athanorref20_Least.j1, if_pos E1.out, if_pos x1, if_pos x2, if_pos x3, x6, e3.out, if_neg hq, e2.out, if_pos x4, if_pos x5, x7]) (Ev.now _)
        · rw [if_neg hrn, if_neg hrn]
          have e3 : Hid (wrap64 (gP ws cs.length r + oP ws l) = gP ws cs.length r + oP ws l) := Lib.hid (wr64 (by omega) (by omega))
          by_cases hq : m < gP ws cs.length r + oP ws l
          · rw [if_pos hq]
            exact Ev.step (fun K => by rw [athanorref20_Least.j1, if_pos E1.out, if_neg (by omega), e3.out, if_pos (by omega)]) (Ev.now _)
          · rw [if_neg hq]
            exact Ev.step (fun K => by rw [athanorref20_Least.j1, if_pos E1.out, if_neg (by omega), e3.out, if_neg (by omega)]) (Ev.now _)
      · rw [ans_split (by omega)]
        have q := ref_loop h (l := l) (r := r) (m := m) hr (by omega) hm1 (fun k h1 h2 => ihd k r (m - ws.getD k 0) (by omega) h2 hr (by have := ws_bd h k; omega) (by have := ws_bd h k; omega)) (fun k h1 h2 => ihd l k m (by omega) h1 (by omega) hm0 hm1) (r - (l + 1)) (l + 1) 0 (-1, 0) rfl (by omega) (by omega) (by omega) (by omega) ⟨Or.inl rfl, by simp, by simp⟩
        exact Ev.step (fun K => by rw [athanorref20_Least.j1, if_neg (by rw [w1 l (by omega)]; omega), w1 l (by omega)]) q
    have hj0 : Ev (fun K => athanorref20_Least.j0 K ws cs (l : Int) (r : Int) m (cs.length : Int) (gP ws cs.length r) 0) (ans ws cs l r m).1 := by
      unfold oP at hj1
      by_cases hl0 : l = 0
      · rw [if_pos hl0] at hj1
        exact Ev.step (fun K => by rw [athanorref20_Least.j0, if_neg (by omega)]) hj1
      · rw [if_neg hl0] at hj1
        exact Ev.step (fun K => by rw [athanorref20_Least.j0, if_pos (by omega), if_pos (by omega), if_pos (by omega), rd_nat]) hj1
    unfold gP at hj0
    by_cases hrn : r = cs.length
    · rw [if_pos hrn] at hj0
      exact Ev.step (fun K => by rw [athanorref20_Least.f, if_neg (by omega)]) hj0
    · rw [if_neg hrn] at hj0
      exact Ev.step (fun K => by rw [athanorref20_Least.f, if_pos (by omega), if_pos (by omega), if_pos (by omega), rd_nat]) hj0
theorem nodes_f (ws cs : List Int) : chain_Chain_Nodes.f ws cs = some (if rightB ws cs = true then (cs.length : Int) else 0) := by
  unfold chain_Chain_Nodes.f
  rw [right_f, Option.bind_some]
  split <;> rfl
theorem ctotal_ev {ws cs : List Int} (h : Rt ws cs) : Ev (fun k => chain_Chain_Total.f k ws cs) (sumC cs 0 cs.length) := by
  refine Ev.congr (fun k => by unfold chain_Chain_Total.f; rw [right_f, Option.bind_some, right_of_rt h, if_pos rfl]) ?_
  exact ctotal_l0 h cs.length 0 (by omega) (by omega)
theorem least_law (ws cs : List Int) (cap : Int) : ∃ k, athanorlaw20_ChainLeast.f k ws cs cap = some true := by
  apply Ev.rounds
  have aw : Ev (fun k => athanorlaw20_ChainLeast.j0 k cap true ws cs) true := Ev.step (fun k => by rw [athanorlaw20_ChainLeast.j0, if_pos rfl]) (Ev.true_ awake_ev)
  have main : ¬ (16 < cs.length ∧ cs.length ≤ 64) → Ev (fun k => athanorlaw20_ChainLeast.j0 k cap false ws cs) true := fun hn => by
    refine Ev.step (fun k => by rw [athanorlaw20_ChainLeast.j0, if_neg (by decide), least_f, Option.bind_some]) ?_
    refine Ev.bind (right_ev ws cs) ?_
    cases hr : rightB ws cs with
    | false =>
      have hT : Ev (fun k => chain_Chain_Total.f k ws cs) 0 := Ev.congr (fun k => by unfold chain_Chain_Total.f; rw [right_f, Option.bind_some, hr, if_neg (by decide)]) (Ev.now _)
      have hE : solE ws cs cap = 10 := by unfold solE; rw [if_pos hr]
      have hA : (solA ws cs cap).1 = 0 := by unfold solA; rw [if_pos hr]
      refine Ev.congr (fun k => by rw [if_neg (by decide), if_pos hE, if_pos hA, right_f, Option.bind_some, hr, if_neg (by decide), nodes_f, Option.bind_some, hr, if_neg Bool.false_ne_true, if_pos rfl]) ?_
      refine Ev.bind hT ?_
      exact Ev.congr (fun k => by rw [if_pos rfl]) (Ev.true_ awake_ev)
    | true =>
      have ht := rt_of_right hr
      refine Ev.congr (fun k => by rw [if_pos rfl, right_f, Option.bind_some, hr, if_pos rfl, nodes_f, Option.bind_some, hr, if_pos rfl, if_pos rfl]) ?_
      refine Ev.bind (ctotal_ev ht) (Ev.bind (total_ev ht) ?_)
      refine Ev.step (fun k => by rw [athanorlaw20_ChainLeast.j1, if_neg (by simp)]) ?_
      have out : cap < 0 ∨ 4096 < cap → Ev (fun k => athanorlaw20_ChainLeast.j2 k cap (solA ws cs cap).1 (solE ws cs cap) true ws cs) true := fun hc => by
        have hE : solE ws cs cap = 11 := by unfold solE; rw [if_neg (by rw [hr]; decide), if_pos hc]
        have hA : (solA ws cs cap).1 = 0 := by unfold solA; rw [if_neg (by rw [hr]; decide), if_pos hc]
        exact Ev.step (fun k => by rw [athanorlaw20_ChainLeast.j2, if_pos rfl, if_pos hE, if_pos hA]) (Ev.true_ awake_ev)
      by_cases h1 : cap < 0
      · exact Ev.congr (fun k => by rw [if_pos h1]) (out (Or.inl h1))
      by_cases h2 : cap > 4096
      · exact Ev.congr (fun k => by rw [if_neg h1, decide_eq_true h2]) (out (Or.inr h2))
      refine Ev.congr (fun k => by rw [if_neg h1, decide_eq_false h2]) ?_
      by_cases h3 : (cs.length : Int) > 7
      · exact Ev.step (fun k => by rw [athanorlaw20_ChainLeast.j2, if_neg (by decide), if_pos h3]) (Ev.true_ awake_ev)
      refine Ev.step (fun k => by rw [athanorlaw20_ChainLeast.j2, if_neg (by decide), if_neg h3]) ?_
      refine Ev.bind (ref_least ht cs.length 0 cs.length cap (by omega) (by have := ht.lo; omega) (Nat.le_refl _) (by omega) (by omega)) ?_
      obtain ⟨e1, a1⟩ := sol_in ht (show 0 ≤ cap by omega) (show cap ≤ 4096 by omega)
      have hnn := ans_nn ht (l := 0) (r := cs.length) cap ht.hi
      by_cases hf : (ans ws cs 0 cs.length cap).1 = -1
      · rw [if_pos hf] at e1 a1
        exact Ev.congr (fun k => by rw [if_pos (by omega), if_pos e1, if_pos a1]) (Ev.true_ awake_ev)
      · rw [if_neg hf] at e1 a1
        exact Ev.congr (fun k => by rw [if_neg (by omega), if_pos e1, if_pos a1]) (Ev.true_ awake_ev)
  unfold athanorlaw20_ChainLeast.f
  by_cases h1 : (cs.length : Int) > 16
  · by_cases h2 : (cs.length : Int) ≤ 64
    · exact Ev.congr (fun k => by rw [if_pos h1, if_pos h2]) aw
    by_cases h3 : (cs.length : Int) > 100
    · exact Ev.congr (fun k => by rw [if_pos h1, if_neg h2, if_pos h3]) aw
    by_cases h4 : (ws.length : Int) > 100
    · exact Ev.congr (fun k => by rw [if_pos h1, if_neg h2, if_neg h3, decide_eq_true h4]) aw
    · exact Ev.congr (fun k => by rw [if_pos h1, if_neg h2, if_neg h3, decide_eq_false h4]) (main (by omega))
  · by_cases h3 : (cs.length : Int) > 100
    · exact Ev.congr (fun k => by rw [if_neg h1, if_pos h3]) aw
    by_cases h4 : (ws.length : Int) > 100
    · exact Ev.congr (fun k => by rw [if_neg h1, if_neg h3, decide_eq_true h4]) aw
    · exact Ev.congr (fun k => by rw [if_neg h1, if_neg h3, decide_eq_false h4]) (main (by omega))
end Go.Proofs.Ytiejdbdbafmccaa
/- part LLeast -/
namespace Go.Proofs.Ytiejdbdbafmccaa
open Go.RowKit Go.Proofs.YtiejdbdbafmccaaW.PrintWords Go.Proofs.Ytiejdbdbafmccaa.PCh
theorem least_walk (x : S24) (a1 : Int) (W : World) {A0 A1 : Option Addr} {c0 c1 : Nat} (g0 : (Kd.int .i64).C W A0 x.f0.length x.f0) (l0 : x.f0.length ≤ c0) (g1 : (Kd.int .i64).C W A1 x.f1.length x.f1) (l1 : x.f1.length ≤ c1) :
    Calls Try.prog 7 #[.agg #[.slice A0 x.f0.length c0, .slice A1 x.f1.length c1], .int .i64 a1] W fun e w' => e = .returned (.bool true) ∧ Below W.heap.size W w' := by
  obtain ⟨k, h⟩ := least_law x.f0 x.f1 a1
  exact athanorlaw20_ChainLeast.calls k A0 c0 x.f0 A1 c1 x.f1 a1 true W g0 l0 g1 l1 h
end Go.Proofs.Ytiejdbdbafmccaa
/- part OpenG -/
namespace Go.Proofs.Ytiejdbdbafmccaa
open Go.RowKit Go.Proofs.YtiejdbdbafmccaaW.PrintWords
open Go.ChangeShapes Go.WideShapes Go.Deep
section
variable {H : Type} (enc : TypeId × Value → H) (P : Program) (w : World) (base : Nat) (spare : Nat → Bool) (held : Bool)
def Opens {α : Type} (t : TypeId) (d : Kd α) (Wf : α → Prop) : Prop := ∀ (fuel : Nat) (cs : List Value) (x : DataW H × List MemPlace), DataW.trod enc P w base spare held fuel t cs = some x → ∃ v : α, d.K w v cs ∧ Wf v
end
section
variable {H : Type} {enc : TypeId × Value → H} {P : Program} {w : World} {base : Nat} {spare : Nat → Bool} {held : Bool}
theorem opens_int {t : TypeId} {k : IntKind} (ht : P.underlying t = some (.int k)) : Opens enc P w base spare held t (Kd.int k) (fun n => (Lit.int k n).wf = true) := fun _ _ _ h => by
  obtain ⟨n, hc, _, hw⟩ := DataW.trod_int ht h
  exact ⟨n, hc, hw⟩
theorem opens_bool {t : TypeId} (ht : P.underlying t = some .bool) : Opens enc P w base spare held t Kd.bool (fun _ => True) := fun _ _ _ h => by
  obtain ⟨n, hc, _⟩ := DataW.trod_bool ht h
  exact ⟨n, hc, trivial⟩
theorem opens_string {t : TypeId} (ht : P.underlying t = some .string) : Opens enc P w base spare held t Kd.string (fun s => s.size ≤ maxLen) := fun _ _ _ h => by
  obtain ⟨n, hc, _, hl⟩ := DataW.trod_string ht h
  exact ⟨n, hc, hl⟩
theorem opens_slice {α : Type} {d : Kd α} {Wf : α → Prop} {t e : TypeId} (hsp : ∀ b, spare b = true) (ht : P.underlying t = some (.slice e)) (hC : P.cellsOf e = d.sz) (he : Opens enc P w base spare held e d Wf) (e' : TypeId) :
    Opens enc P w base spare held t (Kd.slice e' d) (fun xs => ∀ y ∈ xs, Wf y) := fun fuel cs x h => by
  rcases open_slice ht h with ⟨hcs, _⟩ | ⟨a, len, cap, m, n, D, Pl, hcs, hb, hl, hm, hmm, hx, hi⟩
  · subst hcs
    exact ⟨[], ⟨none, 0, rfl, Nat.le_refl _, rfl, by simp, fun hp => absurd hp (Nat.lt_irrefl _)⟩, by simp⟩
  · unfold maxLen at hm
    rw [hsp, if_pos rfl] at hmm
    obtain ⟨xs, hxl, hxq⟩ := exists_list (α := α) (Q := fun i x => Wf x ∧ ∃ c, c.length = d.sz ∧ d.K w x c ∧ ∀ j u, c[j]? = some u → w.cell? (a.add (i * d.sz + j)) = some u) len fun i hil => by
      obtain ⟨c, hc, htr⟩ := hi i (by omega)
      obtain ⟨v, hK, hW⟩ := he _ _ _ htr
      obtain ⟨_, hcl, hat⟩ := World.cells?_some hc
      refine ⟨v, hW, c, hcl.trans hC, hK, fun j u hu => ?_⟩
      have hj : j < P.cellsOf e := by have := (List.getElem?_eq_some_iff.1 hu).1; omega
      have := hat j hj
      rw [hu, Go.Deep.add_add, hC] at this
      exact this
    refine ⟨xs, ⟨some a, cap, by rw [hcs, hxl], by omega, rfl, by omega, fun hp => ⟨a, rfl, fun j p hj => ?_⟩⟩, fun y hy => ?_⟩
    · obtain ⟨hjl, hje⟩ := List.getElem?_eq_some_iff.1 hj
      obtain ⟨_, c, h1, h2, h3⟩ := hxq j hjl
      rw [hje] at h2
      exact ⟨c, h1, h2, h3⟩
    · obtain ⟨j, hj, rfl⟩ := List.getElem_of_mem hy
      exact (hxq j hj).1
theorem opens_fields {t : TypeId} {fs : Array Field} {fuel : Nat} {cs : List Value} {x : DataW H × List MemPlace} (ht : P.underlying t = some (.struct fs)) (h : DataW.trod enc P w base spare held fuel t cs = some x) :
    cs.length = P.cellsOf t ∧ ∃ n, ∀ (i : Nat) (f : Field), fs[i]? = some f → ∃ y, DataW.trod enc P w base spare held n f.type ((cs.drop f.offset).take (P.cellsOf f.type)) = some y := by
  obtain ⟨ys, n, _, _, hl, hyl, hf⟩ := DataW.trod_struct ht h
  refine ⟨hl, n, fun i f hif => ?_⟩
  have hi : i < fs.size := (Array.getElem?_eq_some_iff.1 hif).1
  have h1 := hf i f hif
  rw [List.getElem?_eq_getElem (by omega)] at h1
  exact ⟨_, h1⟩
theorem cut_list {α : Type} (cs : List α) (o n : Nat) : cs.drop o = (cs.drop o).take n ++ cs.drop (o + n) := by
  rw [← List.drop_drop]
  exact (List.take_append_drop n (cs.drop o)).symm
end
end Go.Proofs.Ytiejdbdbafmccaa
/- part QLeast -/
namespace Go.Proofs.Ytiejdbdbafmccaa.chainLeast
open Go.ChangeShapes Go.WideShapes Go.ChangeAt Go.RowKit
open Go.Proofs.YtiejdbdbafmccaaW.PrintWords Go.Proofs.Ytiejdbdbafmccaa
open Go.ChangeMaps (open_string shut_string)
set_option linter.unusedVariables false
theorem own : ownKnob Try.prog.godebug = none := by kernel_rfl
theorem laidOut : laidOutB Try.prog = true := by kernel_rfl
theorem open_s24 {H : Type} {enc : TypeId × Value → H} {w : World} {base : Nat} {held : Bool} : Opens enc Try.prog w base (fun _ => true) held 24 PCh.k24 (fun x => ((∀ yx_f0 ∈ x.f0, (Lit.int .i64 yx_f0).wf = true) ∧ (∀ yx_f1 ∈ x.f1, (Lit.int .i64 yx_f1).wf = true))) := fun fuel cs x h => by
  obtain ⟨hl, n, hf⟩ := opens_fields Try.underlying24 h
  rw [show Try.prog.cellsOf 24 = 2 from by kernel_rfl] at hl
  obtain ⟨y0, h0⟩ := hf 0 _ rfl
  replace h0 : DataW.trod enc Try.prog w base (fun _ => true) held n 22 ((cs.drop 0).take (Try.prog.cellsOf 22)) = some y0 := h0
  rw [show Try.prog.cellsOf 22 = 1 from by kernel_rfl] at h0
  obtain ⟨v0, k0, w0⟩ := (opens_slice (fun _ => rfl) Try.underlying22 (by kernel_rfl) (opens_int Try.underlying3) 3) _ _ _ h0
  obtain ⟨y1, h1⟩ := hf 1 _ rfl
  replace h1 : DataW.trod enc Try.prog w base (fun _ => true) held n 22 ((cs.drop 1).take (Try.prog.cellsOf 22)) = some y1 := h1
  rw [show Try.prog.cellsOf 22 = 1 from by kernel_rfl] at h1
  obtain ⟨v1, k1, w1⟩ := (opens_slice (fun _ => rfl) Try.underlying22 (by kernel_rfl) (opens_int Try.underlying3) 3) _ _ _ h1
  refine ⟨⟨v0, v1⟩, ?_, w0, w1⟩
  have e : cs = (cs.drop 0).take 1 ++ ((cs.drop 1).take 1) := by
    have q1 : cs.drop 1 = (cs.drop 1).take 1 := (List.take_of_length_le (by simp [hl])).symm
    have q0 : cs.drop 0 = (cs.drop 0).take 1 ++ ((cs.drop 1).take 1) := (cut_list cs 0 1).trans (congrArg _ q1)
    exact q0
  rw [e]
  exact ⟨_, _, rfl, k0, k1⟩
set_option maxRecDepth 100000 in
theorem lifted (os : Os) (started : os.Started) (H : Type) (enc : TypeId × Value → H) :
    ReturnsInHanded {} Try.checked os 7 .any (Rows.chainLeastSpec.pre6 enc Try.prog Try.f7 Rows.chainLeastRow.domain false) (Rows.chainLeastSpec.post enc Try.prog Try.f7 false true false false) := by
  refine returnsInHanded_of_change (C := Try.checked) own started (by kernel_rfl) Try.func7
    (ChangeSpec.witness6 (enc := enc) (C := Try.checked) false ⟨#[], #[.agg #[.slice none 0 0, .slice none 0 0], .int .i64 0], []⟩ 8 (by kernel_rfl) (by kernel_rfl) (by kernel_rfl) (by kernel_rfl)) ?_
  intro W base args ds gs before hval0 hW hcnd _
  have hval : ∀ (j : Nat) t v, Try.f7.params[j]? = some t → args[j]? = some v → Value.okWide Try.prog W .any base t v := hval0
  have hW' := hW
  obtain ⟨p, q, hA00, hV, rfl, hfz, hnd⟩ := hW
  have hA : DataW.TrodAll enc Try.prog W 0 (fun _ => true) true Try.f7.params.toList args.toList ds p := hA00
  rw [Try.params7] at hA hval
  obtain ⟨v0, vs0, d0, ds0, p0, q0, hargs, rfl, rfl, h0, r0⟩ := trodAll_cons hA
  obtain ⟨v1, vs1, d1, ds1, p1, q1, rfl, rfl, rfl, h1, r1⟩ := trodAll_cons r0
  obtain ⟨rfl, rfl, rfl⟩ := trodAll_nil r1
  obtain rfl : args = #[v0, v1] := by cases args; simp_all
  obtain ⟨rfl, rfl⟩ := trodVars_none hV
  have k0 := h0
  have lt0 : ∀ x ∈ p0, x.block < W.heap.size := by obtain ⟨m, hm⟩ := k0; exact DataW.trod_lt m _ _ _ hm
  obtain ⟨cs0, rfl, _⟩ := okWide_struct Try.underlying24 (hval 0 24 v0 rfl rfl)
  obtain ⟨fuel0, hf0⟩ := h0
  obtain ⟨x0, K0, wf0⟩ := open_s24 _ _ _ hf0
  obtain ⟨A0_0, c0_0, A0_1, c0_1, e0, l0_0, g0_0, l0_1, g0_1⟩ := PCh.k24_open K0
  obtain rfl : cs0 = _ := Array.toList_inj.1 e0
  have k1 := h1
  have lt1 : ∀ x ∈ p1, x.block < W.heap.size := by obtain ⟨m, hm⟩ := k1; exact DataW.trod_lt m _ _ _ hm
  obtain ⟨x1, rfl, rfl, rfl, wf1⟩ := open_int Try.underlying3 (hval 1 3 v1 rfl rfl) h1
  clear hA00 hval0
  refine (least_walk x0 x1 W g0_0 l0_0 g0_1 l0_1).mono fun e W' ⟨he, bel⟩ => ?_
  subst he
  exact ⟨_, rfl, _, _, _, [], _, [], hW', trodAll_mk1 (shut_bool Try.underlying4 _), (trodAll_cons_mk (Below.trod laidOut (by kernel_rfl) (of_decide_eq_true (by kernel_rfl)) k0 bel lt0) (trodAll_cons_mk (Below.trod laidOut (by kernel_rfl) (of_decide_eq_true (by kernel_rfl)) k1 bel lt1) trodAll_mk0)), rfl, bel.frame _, fun h => by cases h⟩
theorem over : Rows.chainLeastRow.holds Try.pinned (OpenSpec.ofChange Rows.chainLeastSpec) :=
  OpenClaim.holds_of_wide 7 Try.f7 rfl rfl rfl rfl rfl rfl rfl ⟨rfl, rfl, rfl, rfl, rfl⟩ rfl rfl rfl rfl rfl (by kernel_rfl) Try.func7 (by kernel_rfl)
    (of_decide_eq_true (by kernel_rfl)) (by unfold Func.isWrapper; first | (rw [if_pos (by decide +kernel)]; kernel_rfl) | (rw [if_neg (by decide +kernel)]; exact ⟨rfl, rfl⟩))
    (fun os started H enc _ => lifted os started H enc)
theorem proved : Rows.ChainLeastSaid := over
end Go.Proofs.Ytiejdbdbafmccaa.chainLeast
