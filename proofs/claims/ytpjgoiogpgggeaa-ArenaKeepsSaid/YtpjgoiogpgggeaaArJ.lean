/- The arena's Give: what holds of the memory through its steps. Conditions: each lemma's own. -/
import Derived.Deep.RegionHeld3
import Derived.Test.YtpjgoiogpgggeaaArI
namespace Go.Proofs.Ytpjgoiogpgggeaa
open Go.RowKit
def clearC (cs : List Int) (f n : Nat) : List Int := cs.take f ++ List.replicate n 0 ++ cs.drop (f + n)
/-- A block of n words at place fr, ahead of block number i. -/
def giveAt (a : Ar) (fr i n : Nat) : Ar :=
  { a with last := a.last + 1, l := a.l.take i ++ ⟨a.last + 1, fr, n⟩ :: a.l.drop i, cells := clearC (growTo a.cells (fr + n)) fr n, live := a.live + n, high := max a.high (fr + n), peak := max a.peak (a.live + n) }
/-- An arena that a call holds at world W, having begun at w. -/
structure GS (w : World) (g : Nat) (vc0 vl0 vc vl : Value) (a : Ar) (W : World) : Prop where
  ar : Ara W g vc vl a
  fr : Frm [some g, vc0.ownBlock, vl0.ownBlock] w W
  cv : vc.ownBlock = vc0.ownBlock ∨ ∀ b, vc.ownBlock = some b → w.heap.size ≤ b
  lv : vl.ownBlock = vl0.ownBlock ∨ ∀ b, vl.ownBlock = some b → w.heap.size ≤ b
section
variable {w W W' : World} {g : Nat} {vc0 vl0 vc vl : Value} {a : Ar}
theorem GS.start (h : Ara w g vc vl a) : GS w g vc vl vc vl a w := ⟨h, Frm.refl _ _, .inl rfl, .inl rfl⟩
theorem GS.below (h : GS w g vc0 vl0 vc vl a W) (hb : Below W.heap.size W W') : GS w g vc0 vl0 vc vl a W' :=
  ⟨h.ar.below hb, h.fr.thenBelow hb, h.cv, h.lv⟩
theorem GS.post (h : GS w g vc0 vl0 vc vl a W) (r : Value) : AraPost w g vc0 vl0 r a (.returned r) W := ⟨vc, vl, rfl, h.ar, h.fr, h.cv, h.lv⟩
theorem GS.next (h : GS w g vc0 vl0 vc vl a W) {a' : Ar} {r : Value} {e : Ending} (hp : AraPost W g vc vl r a' e W') :
    ∃ vc' vl', e = .returned r ∧ GS w g vc0 vl0 vc' vl' a' W' ∧ Frm [some g, vc.ownBlock, vl.ownBlock] W W' ∧ (vl'.ownBlock = vl.ownBlock ∨ ∀ b, vl'.ownBlock = some b → W.heap.size ≤ b) := by
  obtain ⟨vc', vl', he, har, hf, hc, hl⟩ := hp
  have hs := h.fr.size
  refine ⟨vc', vl', he, ⟨har, h.fr.trans' hf ?_, ?_, ?_⟩, hf, hl⟩
  · intro x hx
    simp only [List.mem_cons, List.not_mem_nil, or_false] at hx
    rcases hx with hx | hx | hx
    · exact .inl (by simp [hx])
    · rcases h.cv with h1 | h1
      · exact .inl (by rw [hx, h1]; simp)
      · exact .inr (h1 x hx.symm)
    · rcases h.lv with h1 | h1
      · exact .inl (by rw [hx, h1]; simp)
      · exact .inr (h1 x hx.symm)
  · rcases hc with h2 | h2
    · rw [h2]; exact h.cv
    · exact .inr fun b hb => Nat.le_trans hs (h2 b hb)
  · rcases hl with h2 | h2
    · rw [h2]; exact h.lv
    · exact .inr fun b hb => Nat.le_trans hs (h2 b hb)
theorem GS.setlast (h : GS w g vc0 vl0 vc vl a W) (n : Nat) : GS w g vc0 vl0 vc vl { a with last := n } (W.setCell ⟨g, 3, none⟩ (.int .i64 n)) := by
  have hne1 : vc.ownBlock ≠ some g := own_blk_ne h.ar.c h.ar.blk (by decide)
  have hne2 : vl.ownBlock ≠ some g := own_blk_ne h.ar.l h.ar.blk (by decide)
  refine ⟨⟨?_, ownsRow_setCell_other h.ar.c (a := ⟨g, 3, none⟩) hne1 _, ownsRow_setCell_other h.ar.l (a := ⟨g, 3, none⟩) hne2 _⟩, h.fr.setCell (.inl (by simp)) _, h.cv, h.lv⟩
  have := h.ar.blk.set_ 3 (.int .i64 n)
  simpa using this
theorem GS.setlive (h : GS w g vc0 vl0 vc vl a W) (n : Nat) : GS w g vc0 vl0 vc vl { a with live := n } (W.setCell ⟨g, 4, none⟩ (.int .i64 n)) := by
  have hne1 : vc.ownBlock ≠ some g := own_blk_ne h.ar.c h.ar.blk (by decide)
  have hne2 : vl.ownBlock ≠ some g := own_blk_ne h.ar.l h.ar.blk (by decide)
  refine ⟨⟨?_, ownsRow_setCell_other h.ar.c (a := ⟨g, 4, none⟩) hne1 _, ownsRow_setCell_other h.ar.l (a := ⟨g, 4, none⟩) hne2 _⟩, h.fr.setCell (.inl (by simp)) _, h.cv, h.lv⟩
  have := h.ar.blk.set_ 4 (.int .i64 n)
  simpa using this
theorem GS.sethigh (h : GS w g vc0 vl0 vc vl a W) (n : Nat) : GS w g vc0 vl0 vc vl { a with high := n } (W.setCell ⟨g, 5, none⟩ (.int .i64 n)) := by
  have hne1 : vc.ownBlock ≠ some g := own_blk_ne h.ar.c h.ar.blk (by decide)
  have hne2 : vl.ownBlock ≠ some g := own_blk_ne h.ar.l h.ar.blk (by decide)
  refine ⟨⟨?_, ownsRow_setCell_other h.ar.c (a := ⟨g, 5, none⟩) hne1 _, ownsRow_setCell_other h.ar.l (a := ⟨g, 5, none⟩) hne2 _⟩, h.fr.setCell (.inl (by simp)) _, h.cv, h.lv⟩
  have := h.ar.blk.set_ 5 (.int .i64 n)
  simpa using this
theorem GS.setpeak (h : GS w g vc0 vl0 vc vl a W) (n : Nat) : GS w g vc0 vl0 vc vl { a with peak := n } (W.setCell ⟨g, 6, none⟩ (.int .i64 n)) := by
  have hne1 : vc.ownBlock ≠ some g := own_blk_ne h.ar.c h.ar.blk (by decide)
  have hne2 : vl.ownBlock ≠ some g := own_blk_ne h.ar.l h.ar.blk (by decide)
  refine ⟨⟨?_, ownsRow_setCell_other h.ar.c (a := ⟨g, 6, none⟩) hne1 _, ownsRow_setCell_other h.ar.l (a := ⟨g, 6, none⟩) hne2 _⟩, h.fr.setCell (.inl (by simp)) _, h.cv, h.lv⟩
  have := h.ar.blk.set_ 6 (.int .i64 n)
  simpa using this
theorem GS.ins (h : GS w g vc0 vl0 vc vl a W) {b : Bk} {i : Nat} (hi : i ≤ a.l.length) {e : Ending} (hp : InsPost W 45 3 vl a.l.length i (bents a.l) (bval b) e W') :
    ∃ vl', e = .returned vl' ∧ (W'.cell? ⟨g, 2, none⟩ = some vl ∧ W'.frozen? ⟨g, 2, none⟩ = false) ∧ Frm [vl.ownBlock] W W' ∧ (vl'.ownBlock = vl.ownBlock ∨ ∀ b, vl'.ownBlock = some b → W.heap.size ≤ b) ∧
      GS w g vc0 vl0 vc vl' { a with l := a.l.take i ++ b :: a.l.drop i } (W'.setCell ⟨g, 2, none⟩ vl') := by
  obtain ⟨v', rfl, ho, hf, hv⟩ := hp
  have hne1 : vc.ownBlock ≠ some g := own_blk_ne h.ar.c h.ar.blk (by decide)
  have hne2 : vl.ownBlock ≠ some g := own_blk_ne h.ar.l h.ar.blk (by decide)
  have hb3 := h.ar.blk.frm hf (by simpa using fun e => hne2 e.symm)
  have hc3 := hf.own h.ar.c (fun b hb => by simp only [List.mem_singleton]; intro he; exact own_own_ne h.ar.c h.ar.l (by decide) b hb he.symm)
  have hne3 : v'.ownBlock ≠ some g := own_blk_ne ho hb3 (by decide)
  have hs := h.fr.size
  refine ⟨v', rfl, ⟨hb3.cell 2, hb3.frozen 2⟩, hf, hv, ⟨?_, ?_, ?_⟩, ?_, h.cv, ?_⟩
  · have := hb3.set_ 2 v'
    simpa using this
  · exact ownsRow_setCell_other hc3 (a := ⟨g, 2, none⟩) hne1 _
  · have hln : (a.l.take i ++ b :: a.l.drop i).length = a.l.length + 1 := by rw [List.length_append, List.length_take, List.length_cons, List.length_drop]; omega
    have hen : bents (a.l.take i ++ b :: a.l.drop i) = insAt (bents a.l) (i * 3) (bval b) := by
      unfold insAt
      rw [bents_take, bents_drop, bents_append, show b :: a.l.drop i = [b] ++ a.l.drop i from rfl, bents_append, List.append_assoc]
      congr 2
    show World.ownsRow _ 0 45 3 _ (a.l.take i ++ b :: a.l.drop i).length (bents (a.l.take i ++ b :: a.l.drop i))
    rw [hln, hen]
    exact ownsRow_setCell_other ho (a := ⟨g, 2, none⟩) hne3 _
  · refine Frm.setCell (h.fr.trans' hf ?_) (.inl (by simp)) _
    intro x hx
    simp only [List.mem_singleton] at hx
    rcases h.lv with h1 | h1
    · exact .inl (by rw [hx, h1]; simp)
    · exact .inr (h1 x hx.symm)
  · rcases hv with h2 | h2
    · rw [h2]; exact h.lv
    · exact .inr fun b hb => Nat.le_trans hs (h2 b hb)
theorem zeros1 (n : Nat) : (Builtin.zeroCells (Value.int .i64 0).cells n).toList = ivals (List.replicate n 0) := zeros_ivals n
theorem GS.clr {rc cc m f n : Nat} {cur : List Value} (h : GS w g vc0 vl0 (.slice (some ⟨rc, 0, none⟩) m cc) vl a W) (hm : m = a.cells.length) (hcur : Blk W rc 59 cur.toArray) (hf : f + n ≤ a.cells.length)
    (hb : Blk W' rc 59 (splice cur f (Builtin.zeroCells (Value.int .i64 0).cells n).toList).toArray) (hg : W.grownBy W' (some rc)) :
    GS w g vc0 vl0 (.slice (some ⟨rc, 0, none⟩) m cc) vl { a with cells := clearC a.cells f n } W' := by
  subst hm
  have hgc : g ≠ rc := fun e => own_blk_ne h.ar.c h.ar.blk (by decide) (by rw [e]; rfl)
  have hc3 := own_splice1 h.ar.c hcur hb (by rw [zeros1, ivals_length, List.length_replicate]; omega)
  have hml : (clearC a.cells f n).length = a.cells.length := by unfold clearC; simp only [List.length_append, List.length_take, List.length_drop, List.length_replicate]; omega
  refine ⟨⟨h.ar.blk.grown hg (by simpa using hgc), ?_, ?_⟩, h.fr.grown hg (fun k hk => ?_), h.cv, h.lv⟩
  · show World.ownsRow _ 0 59 1 _ (clearC a.cells f n).length (ivals (clearC a.cells f n))
    rw [hml]
    have : ivals (clearC a.cells f n) = splice (ivals a.cells) f (Builtin.zeroCells (Value.int .i64 0).cells n).toList := by
      rw [zeros1]
      unfold clearC splice ivals
      simp only [List.map_append, List.map_take, List.map_drop, List.length_map, List.length_replicate, List.append_assoc]
    rw [this]
    exact hc3
  · exact ((Frm.refl [some rc] W).grown hg (fun k hk => .inl (by rw [← hk]; simp))).own h.ar.l (fun b hb0 => by
      simp only [List.mem_singleton]
      intro he
      injection he with he
      exact own_own_ne h.ar.c h.ar.l (by decide) rc rfl (by rw [hb0, he]))
  · injection hk with hk
    subst hk
    rcases h.cv with h1 | h1
    · exact .inl (by rw [← h1]; simp [Value.ownBlock])
    · exact .inr (h1 rc rfl)
end
section
variable {P : Program}
theorem step_clear_blk {ops : Array Oper} {o : Oper} {a : Act} {w : World} {K : Act → World → Prop} {Q : Exit → Act → World → Prop} {E : Prop} (hgd : o.guard = none) (s : Operand) (t : TypeId)
    (ho : o.op = .call { callee := .builtin .clear, args := #[s], argTypes := #[t] })
    (e : TypeId) (i : TypeInfo) (z : Value) (ht : P.underlying t = some (.slice e)) (hi : P.info? e = some i) (hz : i.zero = some z)
    (g off n c : Nat) (hs : a.eval s = .slice (some ⟨g, off, none⟩) n c)
    (cur : List Value) (t' : TypeId) (hg : Blk w g t' cur.toArray) (hfit : off + n * z.cells.size ≤ cur.length) (h1 : ∀ u ∈ z.cells, u.oneCell' = true)
    (h : ∀ w', Blk w' g t' (splice cur off (Builtin.zeroCells z.cells n).toList).toArray → w.grownBy w' (some g) → K (a.put o.dst (.tuple #[])) w') :
    if Region.wanted o (yielded ops a.tmps) = true then Oper.wp P o a w K Q else E := by
  have hw : Region.wanted o (yielded ops a.tmps) = true := by simp [Region.wanted, hgd]
  rw [if_pos hw]
  exact wp_clear_r w s t ho hs (run_clear_blk w t o.type e i z ht hi hz g off n c cur t' hg hfit h1) (h _ (setRow_heap w g _ _ t' _ hg) (setRow_grown w g _))
end
/-- With the new block's variable at p. -/
structure GX (w : World) (g : Nat) (vc0 vl0 vc vl : Value) (a : Ar) (p : Nat) (b : Bk) (W : World) : Prop where
  gs : GS w g vc0 vl0 vc vl a W
  bx : Blk W p 45 #[.int .i64 b.h, .int .i64 b.f, .int .i64 b.w]
  np : vl.ownBlock ≠ some p
section
variable {w W W' : World} {g p : Nat} {vc0 vl0 vc vl : Value} {a : Ar} {b : Bk}
theorem GX.start (h : GS w g vc0 vl0 vc vl a W) (b : Bk) : GX w g vc0 vl0 vc vl a W.heap.size b (W.alloc (.cells #[.int .i64 b.h, .int .i64 b.f, .int .i64 b.w] 45)) :=
  ⟨h.below ((Below.refl _ _).alloc (Nat.le_refl _) _), Blk.new _ _ _, fun e => by
    rcases h.ar.l.2 with ⟨h0, _⟩ | ⟨r, cap, cur, hv, _, hg, _⟩
    · rw [h0] at e; simp [Value.ownBlock] at e
    · rw [hv] at e; simp [Value.ownBlock] at e; subst e; exact absurd (Array.getElem?_eq_some_iff.1 hg).1 (Nat.lt_irrefl _)⟩
theorem GX.below (h : GX w g vc0 vl0 vc vl a p b W) (hb : Below W.heap.size W W') : GX w g vc0 vl0 vc vl a p b W' := ⟨h.gs.below hb, h.bx.below hb h.bx.lt, h.np⟩
theorem GX.ne (h : GX w g vc0 vl0 vc vl a p b W) : p ≠ g := h.bx.ne_ h.gs.ar.blk (by decide)
theorem GX.cells (h : GX w g vc0 vl0 vc vl a p b W) :
    ((W.cell? ⟨p, 0, none⟩ = some (.int .i64 b.h) ∧ W.cell? ⟨p, 1, none⟩ = some (.int .i64 b.f) ∧ W.cell? ⟨p, 2, none⟩ = some (.int .i64 b.w)) ∧
    (W.cell? ⟨g, 0, none⟩ = some (.int .i64 a.cap) ∧ W.cell? ⟨g, 1, none⟩ = some vc ∧ W.cell? ⟨g, 2, none⟩ = some vl ∧ W.cell? ⟨g, 3, none⟩ = some (.int .i64 a.last)) ∧ W.cell? ⟨g, 4, none⟩ = some (.int .i64 a.live) ∧ W.cell? ⟨g, 5, none⟩ = some (.int .i64 a.high) ∧ W.cell? ⟨g, 6, none⟩ = some (.int .i64 a.peak)) ∧
    W.frozen? ⟨g, 2, none⟩ = false ∧ W.frozen? ⟨g, 4, none⟩ = false ∧ W.frozen? ⟨g, 5, none⟩ = false ∧ W.frozen? ⟨g, 6, none⟩ = false :=
  ⟨⟨⟨h.bx.cell 0, h.bx.cell 1, h.bx.cell 2⟩, ⟨h.gs.ar.blk.cell 0, h.gs.ar.blk.cell 1, h.gs.ar.blk.cell 2, h.gs.ar.blk.cell 3⟩, h.gs.ar.blk.cell 4, h.gs.ar.blk.cell 5, h.gs.ar.blk.cell 6⟩, h.gs.ar.blk.frozen 2, h.gs.ar.blk.frozen 4, h.gs.ar.blk.frozen 5, h.gs.ar.blk.frozen 6⟩
theorem GX.setlive (h : GX w g vc0 vl0 vc vl a p b W) (n : Nat) : GX w g vc0 vl0 vc vl { a with live := n } p b (W.setCell ⟨g, 4, none⟩ (.int .i64 n)) :=
  ⟨h.gs.setlive n, h.bx.far (p := ⟨g, 4, none⟩) h.ne _, h.np⟩
theorem GX.sethigh (h : GX w g vc0 vl0 vc vl a p b W) (n : Nat) : GX w g vc0 vl0 vc vl { a with high := n } p b (W.setCell ⟨g, 5, none⟩ (.int .i64 n)) :=
  ⟨h.gs.sethigh n, h.bx.far (p := ⟨g, 5, none⟩) h.ne _, h.np⟩
theorem GX.setpeak (h : GX w g vc0 vl0 vc vl a p b W) (n : Nat) : GX w g vc0 vl0 vc vl { a with peak := n } p b (W.setCell ⟨g, 6, none⟩ (.int .i64 n)) :=
  ⟨h.gs.setpeak n, h.bx.far (p := ⟨g, 6, none⟩) h.ne _, h.np⟩
theorem GX.ins (h : GX w g vc0 vl0 vc vl a p b W) {i : Nat} (hi : i ≤ a.l.length) {e : Ending} (hp : InsPost W 45 3 vl a.l.length i (bents a.l) (bval b) e W') :
    ∃ vl', e = .returned vl' ∧ (W'.cell? ⟨g, 2, none⟩ = some vl ∧ W'.frozen? ⟨g, 2, none⟩ = false) ∧ Blk W' p 45 #[.int .i64 b.h, .int .i64 b.f, .int .i64 b.w] ∧ GX w g vc0 vl0 vc vl' { a with l := a.l.take i ++ b :: a.l.drop i } p b (W'.setCell ⟨g, 2, none⟩ vl') := by
  obtain ⟨v', he, hc, hf, hv, hg⟩ := h.gs.ins hi hp
  have hlt := h.bx.lt
  refine ⟨v', he, hc, h.bx.frm hf (by simpa using fun e => h.np e.symm), hg, (h.bx.frm hf (by simpa using fun e => h.np e.symm)).far (p := ⟨g, 2, none⟩) h.ne _, ?_⟩
  rcases hv with hv | hv
  · rw [hv]; exact h.np
  · intro e; have := hv p e; omega
theorem GX.grow (h : GX w g vc0 vl0 vc vl a p b W) {a' : Ar} {r : Value} {e : Ending} (hp : AraPost W g vc vl r a' e W') :
    ∃ vc' vl', e = .returned r ∧ GX w g vc0 vl0 vc' vl' a' p b W' := by
  obtain ⟨vc', vl', he, hg, hf, hl⟩ := h.gs.next hp
  have hlt := h.bx.lt
  refine ⟨vc', vl', he, hg, h.bx.frm hf ?_, ?_⟩
  · simp only [List.mem_cons, List.not_mem_nil, or_false, not_or]
    exact ⟨by simpa using h.ne, fun e => own_blk_ne h.gs.ar.c h.bx (by decide) e.symm, fun e => h.np e.symm⟩
  · rcases hl with hv | hv
    · rw [hv]; exact h.np
    · intro e; have := hv p e; omega
theorem GX.clr {rc cc m f n : Nat} {cur : List Value} (h : GX w g vc0 vl0 (.slice (some ⟨rc, 0, none⟩) m cc) vl a p b W) (hm : m = a.cells.length) (hcur : Blk W rc 59 cur.toArray) (hf : f + n ≤ a.cells.length)
    (hb : Blk W' rc 59 (splice cur f (Builtin.zeroCells (Value.int .i64 0).cells n).toList).toArray) (hg : W.grownBy W' (some rc)) :
    GX w g vc0 vl0 (.slice (some ⟨rc, 0, none⟩) m cc) vl { a with cells := clearC a.cells f n } p b W' :=
  ⟨h.gs.clr hm hcur hf hb hg, h.bx.grown hg (by simpa using fun e => own_blk_ne h.gs.ar.c h.bx (by decide) (by rw [e]; rfl)), h.np⟩
end
end Go.Proofs.Ytpjgoiogpgggeaa
