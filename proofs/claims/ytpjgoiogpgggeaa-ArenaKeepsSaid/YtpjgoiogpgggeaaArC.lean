/- The arena's cells: grow, own, walked. Conditions: each theorem's own. -/
import Derived.Test.YtpjgoiogpgggeaaArB
import Derived.Test.YtpjgoiogpgggeaaSlZ
namespace Go.Proofs.Ytpjgoiogpgggeaa
open Go.RowKit
def growTo (cs : List Int) (t : Nat) : List Int := cs ++ List.replicate (t - cs.length) 0
theorem zeros_ivals (m : Nat) : (Builtin.zeroCells (Value.int .i64 0).cells m).toList = ivals (List.replicate m 0) := by
  refine List.ext_getElem ?_ ?_
  · simp [Builtin.zeroCells, ivals, Value.cells]
  · intro i h1 h2
    simp [Builtin.zeroCells, ivals, Value.cells, Nat.mod_one]
theorem ivals_append (a b : List Int) : ivals (a ++ b) = ivals a ++ ivals b := by simp [ivals]
theorem ivals_length (a : List Int) : (ivals a).length = a.length := by simp [ivals]
theorem info_F : (Try.prog.info? 59).map (fun i => (i.zero, i.size, i.bytes, (Value.int .i64 0).cells.size)) = some (some (.int .i64 0), 1, 8, 1) := by kernel_rfl
/-- What a call that changes an arena leaves. -/
structure AraPost (w : World) (g : Nat) (vc vl : Value) (r : Value) (a' : Ar) (e : Ending) (w' : World) : Prop where
  ex : ∃ vc' vl', e = .returned r ∧ Ara w' g vc' vl' a' ∧ Frm [some g, vc.ownBlock, vl.ownBlock] w w' ∧ (vc'.ownBlock = vc.ownBlock ∨ ∀ b, vc'.ownBlock = some b → w.heap.size ≤ b) ∧ (vl'.ownBlock = vl.ownBlock ∨ ∀ b, vl'.ownBlock = some b → w.heap.size ≤ b)
set_option maxRecDepth 100000 in
set_option maxHeartbeats 1000000 in
theorem grow_more (g : Nat) (vc vl : Value) (a : Ar) (t : Nat) (w : World) (hA : Ara w g vc vl a) (ht : t ≤ 16777216) (hlt : a.cells.length < t) :
    Calls Try.prog 29 #[.pointer (some ⟨g, 0, none⟩), .int .i64 t] w (AraPost w g vc vl (.tuple #[]) { a with cells := growTo a.cells t }) := by
  obtain ⟨i0, hi0, hz0, hz1, hz2, hz3⟩ := info_parts4 info_F
  have hfin : ∀ w1 v', w1.ownsRow 0 59 1 v' (a.cells.length + (t - a.cells.length)) (ivals a.cells ++ (Builtin.zeroCells (Value.int .i64 0).cells (t - a.cells.length)).toList) → w.drew.grownBy w1 vc.ownBlock → (v'.ownBlock = vc.ownBlock ∨ v'.ownBlock = some w.drew.heap.size) →
      AraPost w g vc vl (.tuple #[]) { a with cells := growTo a.cells t } (.returned (.tuple #[])) (w1.setCell ⟨g, 1, none⟩ v') := fun w1 v' ho hg hv => by
    have hgw : w.grownBy w1 vc.ownBlock := grownBy_of_drew hg
    have hne1 : vc.ownBlock ≠ some g := own_blk_ne hA.c hA.blk (by decide)
    have hne2 : vl.ownBlock ≠ some g := own_blk_ne hA.l hA.blk (by decide)
    have hb1 := hA.blk.grown hgw (fun h => hne1 h.symm)
    have hf1 : Frm [some g, vc.ownBlock, vl.ownBlock] w w1 := (Frm.refl _ w).grown hgw (fun k hk => .inl (by rw [← hk]; simp))
    have hf2 : Frm [some g, vc.ownBlock, vl.ownBlock] w (w1.setCell ⟨g, 1, none⟩ v') := hf1.setCell (.inl (by simp)) _
    have hfs : Frm [some g] w1 (w1.setCell ⟨g, 1, none⟩ v') := (Frm.refl _ w1).setCell (.inl (by simp)) _
    have hne3 : v'.ownBlock ≠ some g := own_blk_ne ho hb1 (by decide)
    refine ⟨v', vl, rfl, ⟨?_, ?_, ?_⟩, hf2, ?_, .inl rfl⟩
    · have := hb1.set_ 1 v'
      simpa using this
    · refine hfs.own ?_ (fun b hb => by simp; rintro rfl; exact hne3 hb)
      have hln : (growTo a.cells t).length = a.cells.length + (t - a.cells.length) := by simp [growTo]
      show w1.ownsRow 0 59 1 v' (growTo a.cells t).length (ivals (growTo a.cells t))
      rw [hln, growTo, ivals_append, ← zeros_ivals]
      exact ho
    · refine hfs.own ?_ (fun b hb => by simp; rintro rfl; exact hne2 hb)
      refine ((Frm.refl [vc.ownBlock] w).grown hgw (fun k hk => .inl (by rw [← hk]; simp))).own hA.l (fun b hb => ?_)
      simp
      intro he
      exact own_own_ne hA.c hA.l (by decide) b he.symm hb
    · rcases hv with h | h
      · exact .inl h
      · exact .inr fun b hb => by rw [h] at hb; injection hb with hb; subst hb; exact Nat.le_refl _
  have HF := Lib.hid hfin
  have HO := Lib.hid hA.c
  obtain ⟨A, c, rfl⟩ := own_slice hA.c
  obtain ⟨⟨h0, h1, h2, h3⟩, h4, h5, h6, h7⟩ := hA.cells
  have hgf : ∀ w1, w.drew.grownBy w1 (Value.slice A a.cells.length c).ownBlock → w1.cell? ⟨g, 1, none⟩ = some (.slice A a.cells.length c) ∧ w1.frozen? ⟨g, 1, none⟩ = false := fun w1 hg => by
    have hb1 := hA.blk.grown (grownBy_of_drew hg) (fun h => own_blk_ne hA.c hA.blk (by decide) h.symm)
    exact ⟨hb1.cell 1, hb1.frozen 1⟩
  have HGF := Lib.hid hgf
  have hw1 : IntKind.i64.wrap ((t : Int) - (a.cells.length : Int)) = ((t - a.cells.length : Nat) : Int) := by rw [IntKind.wrap_i64]; omega
  have hlt' : (a.cells.length : Int) < (t : Int) := by omega
  clear hA h0 h2 h3 h4 h5 h6 h7 hfin hgf
  go_enter Try.func29, Try.ntmps29
  go_wp2_with fail
  go_region_law (refine step_append_zeros rfl (.tmp 15) (.tmp 22) _ _ rfl 59 i0 (.int .i64 0) .i64 1 8 Try.underlying23 Try.underlying3 hi0 hz0 hz1 hz2 rfl (by omega) (by simp [Value.cells, Value.oneCell']) (.slice A a.cells.length c) a.cells.length (ivals a.cells) (by simp [Act.eval, Act.put]) HO.out (t - a.cells.length) (by simp [Act.eval, Act.put]) (by omega) (by unfold maxLen; omega) (by omega) ?_; intro v' w1 ho hg hv; obtain ⟨A', c', rfl⟩ := own_slice ho; obtain ⟨d1, d2⟩ := HGF.out _ hg)
  all_goals exact bodyPost_ret (v := .tuple #[]) (by simp [results, Try.f29, go_sem]) rfl (HF.out _ _ ho hg hv)
set_option maxHeartbeats 1000000 in
theorem grow_any (g : Nat) (vc vl : Value) (a : Ar) (t : Nat) (w : World) (hA : Ara w g vc vl a) (ht : t ≤ 16777216) :
    Calls Try.prog 29 #[.pointer (some ⟨g, 0, none⟩), .int .i64 t] w (AraPost w g vc vl (.tuple #[]) { a with cells := growTo a.cells t }) := by
  by_cases hlt : a.cells.length < t
  · exact grow_more g vc vl a t w hA ht hlt
  · have he : growTo a.cells t = a.cells := by unfold growTo; rw [Nat.sub_eq_zero_of_le (by omega)]; simp
    rw [he]
    have hfin : AraPost w g vc vl (.tuple #[]) { a with cells := a.cells } (.returned (.tuple #[])) w := ⟨vc, vl, rfl, hA, Frm.refl _ _, .inl rfl, .inl rfl⟩
    have HF := Lib.hid hfin
    obtain ⟨A, c, rfl⟩ := own_slice hA.c
    obtain ⟨⟨h0, h1, h2, h3⟩, h4, h5, h6, h7⟩ := hA.cells
    clear hA h0 h2 h3 h4 h5 h6 h7 hfin he
    have hlt' : ¬ (a.cells.length : Int) < (t : Int) := by omega
    go_enter Try.func29, Try.ntmps29
    go_wp2_with fail
    exact bodyPost_ret (v := .tuple #[]) (by simp [results, Try.f29, go_sem]) rfl HF.out
end Go.Proofs.Ytpjgoiogpgggeaa
