/- The arena's Get and Put, walked. Conditions: the blocks lie within the cells. -/
import Derived.Test.YtpjgoiogpgggeaaArE
namespace Go.Proofs.Ytpjgoiogpgggeaa
open Go.RowKit
set_option maxRecDepth 100000 in
set_option maxHeartbeats 1000000 in
theorem get_none (g : Nat) (vc vl : Value) (a : Ar) (N : Int) (w : World) (hA : Ara w g vc vl a) (hl : a.l.length ≤ 16777216) (hq : hix N a.l 0 = none) :
    Calls Try.prog 15 #[.pointer (some ⟨g, 0, none⟩), .int .i64 N] w fun e w' => e = .returned (.tuple #[.slice none 0 0, .int .i64 14]) ∧ Below w.heap.size w w' := by
  have hF := fun w1 (hb : Below w.heap.size w w1) => find_any g vc vl a N w1 (hA.below hb) hl
  simp only [hq, fiVals] at hF
  have HFI := Lib.hid hF
  clear hF hA hq
  go_enter Try.func15, Try.ntmps15
  go_wp2_with (go_at_call 18; refine (HFI.out _ (Below.refl _ _)).mono ?_; rintro e w1 ⟨rfl, hb1⟩)
  go_ret2
  exact ⟨rfl, hb1.alloc hb1.size _⟩
set_option maxRecDepth 100000 in
set_option maxHeartbeats 1000000 in
theorem get_some (g : Nat) (vc vl : Value) (a : Ar) (N : Int) (i : Nat) (w : World) (hA : Ara w g vc vl a) (hl : a.l.length ≤ 16777216) (hq : hix N a.l 0 = some i) (hi : i < a.l.length) (hb : a.l[i].f + a.l[i].w ≤ a.cells.length) (hw : 1 ≤ a.l[i].w) (hcm : a.cells.length ≤ 16777216) :
    Calls Try.prog 15 #[.pointer (some ⟨g, 0, none⟩), .int .i64 N] w fun e w' => ∃ v', e = .returned (.tuple #[v', .int .i64 0]) ∧ OwnF w' v' ((a.cells.drop a.l[i].f).take a.l[i].w) ∧ Below w.heap.size w w' ∧ ∀ b, v'.ownBlock = some b → w.heap.size ≤ b := by
  obtain ⟨rc, cc, rfl⟩ := own_some hA.c (by omega)
  have hgd : a.l.getD i ⟨0, 0, 0⟩ = a.l[i] := by simp [hi]
  have hF := find_any g _ vl a N w hA hl
  have hO := fun w1 (hb1 : Below w.heap.size w w1) => own_any g rc cc vl a a.l[i] w1 (hA.below hb1) hb hw hcm
  have hln : (((a.cells.drop a.l[i].f).take a.l[i].w)).length = a.l[i].w := by rw [List.length_take, List.length_drop]; omega
  have hC := fun w1 (hb1 : Below w.heap.size w w1) => clone_F rc a.l[i].f a.l[i].w (cc - a.l[i].f) ((a.cells.drop a.l[i].f).take a.l[i].w) w1 (by
    obtain ⟨cur, hbc, hcc, hct, hcn, hcx⟩ := own_blk1 (hA.below hb1).c
    refine ⟨by rw [ivals_length, hln]; omega, fun _ => ⟨rc, _, rfl, hbc.lt, fun j u hu => ?_⟩⟩
    rw [hbc.cell]
    have h2 : (ivals a.cells)[a.l[i].f + j]? = some u := by
      unfold ivals at hu ⊢
      rw [List.map_take, List.map_drop, List.getElem?_take] at hu
      split at hu
      · rwa [List.getElem?_drop] at hu
      · cases hu
    rw [← hct, List.getElem?_take] at h2
    split at h2
    · simpa using h2
    · cases h2) (by omega)
  simp only [hq, fiVals, hgd, bagg] at hF hO
  have HFI := Lib.hid hF; have HO := Lib.hid hO; have HC := Lib.hid hC
  clear hF hO hC hA hq hgd
  generalize (a.cells.drop a.l[i].f).take a.l[i].w = xs at *
  generalize a.l[i] = q at *
  obtain ⟨qh, qf, qw⟩ := q
  simp only at *
  go_enter Try.func15, Try.ntmps15
  go_wp2_with (first
    | (go_at_call 18; refine HFI.out.mono ?_; rintro e w1 ⟨rfl, hb1⟩; have HB1 := Lib.hid (hb1.alloc hb1.size (.cells #[.int .i64 qh, .int .i64 qf, .int .i64 qw] 45)); clear hb1)
    | (go_at_call 33; refine (HO.out _ HB1.out).mono ?_; rintro e w2 ⟨rfl, hb2⟩; have HB2 := Lib.hid (HB1.out.trans (hb2.mono HB1.out.size)); clear hb2)
    | (go_at_call 34; refine (HC.out _ HB2.out).mono ?_; rintro e w3 ⟨v', rfl, ho, hb3, hv⟩; have HB3 := Lib.hid (HB2.out.trans (hb3.mono HB2.out.size)); have HOW := Lib.hid ho; have HV := Lib.hid hv; have HS := Lib.hid HB2.out.size; clear ho hb3 hv))
  go_ret2
  refine ⟨_, rfl, ?_, HB3.out, fun b hb => Nat.le_trans HS.out (HV.out b hb)⟩
  show World.ownsRow _ 0 59 1 _ xs.length (ivals xs)
  rw [hln]
  exact HOW.out
end Go.Proofs.Ytpjgoiogpgggeaa
