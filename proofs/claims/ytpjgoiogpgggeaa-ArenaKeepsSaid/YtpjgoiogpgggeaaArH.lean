/- The arena's Free, walked. Conditions: the blocks' words are counted. -/
import Derived.Test.YtpjgoiogpgggeaaArG
namespace Go.Proofs.Ytpjgoiogpgggeaa
open Go.RowKit
set_option maxRecDepth 100000 in
set_option maxHeartbeats 1000000 in
theorem free_none (g : Nat) (vc vl : Value) (a : Ar) (N : Int) (w : World) (hA : Ara w g vc vl a) (hl : a.l.length ≤ 16777216) (hq : hix N a.l 0 = none) :
    Calls Try.prog 12 #[.pointer (some ⟨g, 0, none⟩), .int .i64 N] w fun e w' => e = .returned (.int .i64 14) ∧ Below w.heap.size w w' := by
  have hF := at_any g vc vl a N w hA hl
  simp only [hq, atVals] at hF
  have HFI := Lib.hid hF
  clear hF hA hq
  go_enter Try.func12, Try.ntmps12
  go_wp2_with (go_at_call 31; refine HFI.out.mono ?_; rintro e w1 ⟨rfl, hb1⟩)
  go_ret
  exact ⟨rfl, hb1⟩
set_option maxRecDepth 100000 in
set_option maxHeartbeats 1000000 in
theorem free_some (g : Nat) (vc vl : Value) (a : Ar) (N : Int) (i : Nat) (w : World) (hA : Ara w g vc vl a) (hl : a.l.length ≤ 1000000) (hq : hix N a.l 0 = some i) (hi : i < a.l.length) (hlv : a.l[i].w ≤ a.live) (hlm : a.live ≤ 16777216) :
    Calls Try.prog 12 #[.pointer (some ⟨g, 0, none⟩), .int .i64 N] w (AraPost w g vc vl (.int .i64 0) { a with l := a.l.take i ++ a.l.drop (i + 1), live := a.live - a.l[i].w }) := by
  have hF := at_any g vc vl a N w hA (by omega)
  simp only [hq, atVals] at hF
  have HFI := Lib.hid hF
  obtain ⟨A, c, rfl⟩ := own_slice hA.l
  obtain ⟨r, rfl, hrl, g0, g1, g2⟩ := own_cells3 hA.l i hi
  have hcs := fun w1 (hb : Below w.heap.size w w1) => (hA.below hb).cells
  have hfz := fun w1 (hb : Below w.heap.size w w1) => (hA.below hb).blk.frozen
  have hdel : ∀ w1, Below w.heap.size w w1 → Calls Try.prog 32 #[.slice (some ⟨r, 0, none⟩) a.l.length c, .int .i64 i, .int .i64 ((i : Int) + 1)] (w1.setCell ⟨g, 4, none⟩ (.int .i64 ((a.live - a.l[i].w : Nat) : Int))).drew fun e w3 => ∃ A' c', e = .returned (.slice A' (a.l.length - 1) c') ∧ w3.cell? ⟨g, 2, none⟩ = some (.slice (some ⟨r, 0, none⟩) a.l.length c) ∧ w3.frozen? ⟨g, 2, none⟩ = false ∧ AraPost w g vc (.slice (some ⟨r, 0, none⟩) a.l.length c) (.int .i64 0) { a with l := a.l.take i ++ a.l.drop (i + 1), live := a.live - a.l[i].w } (.returned (.int .i64 0)) (w3.setCell ⟨g, 2, none⟩ (.slice A' (a.l.length - 1) c')) := by
    intro w1 hb1
    have h1 := hA.below hb1
    have hne1 : vc.ownBlock ≠ some g := own_blk_ne h1.c h1.blk (by decide)
    have hne2 : (Value.slice (some ⟨r, 0, none⟩) a.l.length c).ownBlock ≠ some g := own_blk_ne h1.l h1.blk (by decide)
    have hL := ownsRow_setCell_other h1.l (a := ⟨g, 4, none⟩) hne2 (.int .i64 ((a.live - a.l[i].w : Nat) : Int))
    have hC := ownsRow_setCell_other h1.c (a := ⟨g, 4, none⟩) hne1 (.int .i64 ((a.live - a.l[i].w : Nat) : Int))
    have hB := h1.blk.set_ 4 (.int .i64 ((a.live - a.l[i].w : Nat) : Int))
    have hfr : Frm [some g, vc.ownBlock, (Value.slice (some ⟨r, 0, none⟩) a.l.length c).ownBlock] w (w1.setCell ⟨g, 4, none⟩ (.int .i64 ((a.live - a.l[i].w : Nat) : Int))) := (Frm.of_below hb1).setCell (.inl (by simp)) _
    refine (del_block _ a.l.length i (bents a.l) (w1.setCell ⟨g, 4, none⟩ (.int .i64 ((a.live - a.l[i].w : Nat) : Int))).drew hl hi hL (bents_one _)).mono ?_
    rintro e w3 ⟨v', rfl, ho, hf, hv⟩
    obtain ⟨A', c', rfl⟩ := own_slice ho
    have hB3 := Blk.frm (Blk.drew hB) hf (by simpa using fun e => hne2 e.symm)
    have hC3 := hf.own (w := (w1.setCell ⟨g, 4, none⟩ (.int .i64 ((a.live - a.l[i].w : Nat) : Int))).drew) hC (fun b hb => by simp only [List.mem_singleton]; intro he; exact own_own_ne h1.c h1.l (by decide) b hb he.symm)
    refine ⟨A', c', rfl, hB3.cell 2, hB3.frozen 2, vc, _, rfl, ⟨?_, ?_, ?_⟩, ?_, .inl rfl, .inl hv⟩
    · have := hB3.set_ 2 (.slice A' (a.l.length - 1) c')
      simpa using this
    · exact ownsRow_setCell_other hC3 (a := ⟨g, 2, none⟩) hne1 _
    · have hln : (a.l.take i ++ a.l.drop (i + 1)).length = a.l.length - 1 := by rw [List.length_append, List.length_take, List.length_drop]; omega
      show World.ownsRow _ 0 45 3 _ (a.l.take i ++ a.l.drop (i + 1)).length (bents (a.l.take i ++ a.l.drop (i + 1)))
      rw [hln, bents_append, ← bents_take, ← bents_drop]
      exact ownsRow_setCell_other ho (a := ⟨g, 2, none⟩) (by rw [hv]; exact hne2) _
    · exact (hfr.drew.trans (hf.mono (fun x hx => .inl (by simp at hx; simp [hx])))).setCell (.inl (by simp)) _
  have HDE := Lib.hid hdel
  clear hdel
  have HCS := Lib.hid hcs; have HFZ := Lib.hid hfz
  have hw1 : IntKind.i64.wrap ((a.live : Int) - (a.l[i].w : Int)) = ((a.live - a.l[i].w : Nat) : Int) := by rw [IntKind.wrap_i64]; omega
  clear hF hA hq hcs hfz
  generalize a.l[i] = q at *
  obtain ⟨qh, qf, qw⟩ := q
  simp only at *
  go_enter Try.func12, Try.ntmps12
  go_wp2_with (go_at_call 31; refine HFI.out.mono ?_; rintro e w1 ⟨rfl, hb1⟩; obtain ⟨⟨h0, h1, h2, h3⟩, h4, h5, h6, h7⟩ := HCS.out _ hb1; have c2 := (hb1.cell (p := ⟨r, i * 3 + 2, none⟩) hrl).trans g2; have f4 := HFZ.out _ hb1 4; have f2 := HFZ.out _ hb1 2; have HB1 := Lib.hid hb1; clear hb1)
  go_region
  all_goals (go_wp2_with fail)
  all_goals (refine (HDE.out w1 HB1.out).mono ?_; rintro e w3 ⟨A', c', rfl, d1, d2, hfin⟩; have HFN := Lib.hid hfin; clear hfin; go_wp2_with fail; go_ret; exact HFN.out)
end Go.Proofs.Ytpjgoiogpgggeaa
