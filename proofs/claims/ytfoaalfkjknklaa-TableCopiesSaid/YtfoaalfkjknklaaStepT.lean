/- The law's 'step' (one call of the table and of the list of pairs), walked. Conditions: both hold the same. -/
import Derived.Test.YtfoaalfkjknklaaLRises
import Derived.Deep.RegionHeld3
namespace Go.Proofs.Ytfoaalfkjknklaa
open Go.RowKit
/-- One call on both, plainly. -/
def rstep (x : PL) (l : PL) (q : TOp) : PL × PL :=
  if q.kind = 1 then (rset x q.k q.v, tset cmpI l q.k q.v) else if q.kind = 2 then (x, l) else if q.kind = 3 then (rdel x q.k, tdel cmpI l q.k) else if q.kind = 4 then (match l with | [] => (x, []) | e :: l' => (rdel x e.1, l')) else (x, l)
structure StepPost (w0 w : World) (g : Nat) (v : Value) (p : PL × PL) (e : Ending) (w' : World) : Prop where
  ex : ∃ v' vx', e = .returned (.tuple #[vx', .bool true]) ∧ Both w0 w' g v' vx' p.2 p.1 ∧ Frm [some g, v.ownBlock] w w' ∧ (v'.ownBlock = v.ownBlock ∨ ∀ b, v'.ownBlock = some b → w.heap.size ≤ b)
abbrev opBox (q : TOp) : Obj := .cells #[.int .i64 q.kind, .int .i64 q.k, .string q.v] 38
theorem Tbl.frmOther {w w' : World} {g g' : Nat} {v v' : Value} {l l' : PL} (h : Tblintstring w g v l) (h' : Tblintstring w g' v' l') (hf : Frm [some g', v'.ownBlock] w w') (hne : g ≠ g') (hv : ∀ b, v.ownBlock = some b → v'.ownBlock ≠ some b) : Tblintstring w' g v l :=
  h.frm hf (by
    simp only [List.mem_cons, List.not_mem_nil, or_false, not_or]
    exact ⟨fun e => hne (by injection e), fun e => own_blk_ne h'.own h.blk (by decide) e.symm⟩) (fun b hb => by
    simp only [List.mem_cons, List.not_mem_nil, or_false, not_or]
    exact ⟨fun e => own_blk_ne h.own h'.blk (by decide) (by rw [hb, e]), fun e => hv b hb e.symm⟩)
/-- The list and the new table behind the two calls of a step. -/
theorem both_of {w0 w w2 w3 : World} {g : Nat} {v vx vx' : Value} {l x l' x' : PL} {r : Value} {e : Ending} (hB : Both w0 w g v vx l x) (hb1 : Below w.heap.size w w2) (ho : OwnP w2 vx' x') (hv : ∀ b, vx'.ownBlock = some b → w.heap.size ≤ b)
    (hp : TPintstring w2 g v r l' e w3) (hm : Mtch x' l') : ∃ v', e = .returned r ∧ Both w0 w3 g v' vx' l' x' ∧ Frm [some g, v.ownBlock] w w3 ∧ (v'.ownBlock = v.ownBlock ∨ ∀ b, v'.ownBlock = some b → w.heap.size ≤ b) := by
  have hT := hB.t.below hb1
  obtain ⟨v', he, ht, hf, hv'⟩ := hp
  obtain ⟨v2, he2, ht2⟩ := hT.step ⟨v', he, ht, hf, hv'⟩
  have hsz := hB.t.b.size
  have hsz2 := hb1.size
  refine ⟨v', he, ⟨⟨ht, (hT.b).trans (hf.below (by omega) fun y hy => ?_), hT.g0, fun b hb => ?_⟩, hf.own ho (ho.ne_ hT.t), hm, fun b hb => by have := hv b hb; omega⟩, (Frm.of_below hb1).trans hf, ?_⟩
  · simp at hy
    rcases hy with rfl | hy
    · exact hT.g0
    · exact hT.v0 _ hy.symm
  · rcases hv' with h | h
    · exact hT.v0 b (by rw [← h]; exact hb)
    · have := h b hb; omega
  · rcases hv' with h | h
    · exact .inl h
    · exact .inr fun b hb => by have := h b hb; omega
/-- What 'want' is, and where the key stands. -/
theorem find_facts {x l : PL} (hm : Mtch x l) (k : Int) : (tget cmpI l k = none ∧ rfind x k < 0) ∨ ∃ e i, tget cmpI l k = some e ∧ rfind x k = ((i : Nat) : Int) ∧ ∃ hi : i < x.length, x[i] = e := by
  cases hq : tget cmpI l k with
  | none => exact .inl ⟨rfl, (rfind_none hm).2 hq⟩
  | some e =>
    obtain ⟨i, h1, hi, h2⟩ := rfind_some hm hq
    exact .inr ⟨e, i, rfl, h1, hi, h2⟩

set_option maxRecDepth 100000 in
set_option maxHeartbeats 1000000 in
theorem step_set (w0 : World) (g : Nat) (v vx : Value) (l x : PL) (k : Int) (s : ByteArray) (w : World) (hB : Both w0 w g v vx l x) (hl : l.length ≤ 1000) (hx : x.length ≤ 1000) :
    Calls Try.prog 17 #[.pointer (some ⟨g, 0, none⟩), vx, .agg #[.int .i64 1, .int .i64 k, .string s]] w (StepPost w0 w g v (rset x k s, tset cmpI l k s)) := by
  obtain ⟨w1, hw1⟩ : ∃ w1, w1 = w.alloc (opBox ⟨1, k, s⟩) := ⟨_, rfl⟩
  have hb01 : Below w.heap.size w w1 := by rw [hw1]; exact (Below.refl _ _).alloc (Nat.le_refl _) _
  have hB1 := hB.below hb01
  have hbox : Blk w1 w.heap.size 38 #[.int .i64 1, .int .i64 k, .string s] := by rw [hw1]; exact Blk.new _ _ _
  have c1 : w1.cell? ⟨w.heap.size, 1, none⟩ = some (.int .i64 k) := by rw [hbox.cell]; rfl
  have c2 : w1.cell? ⟨w.heap.size, 2, none⟩ = some (.string s) := by rw [hbox.cell]; rfl
  have hlt1 := hbox.lt
  have HF := Lib.hid (rfind_any vx x k w1 hB1.o (by omega))
  have HRS := Lib.hid fun W (hb : Below w1.heap.size w1 W) => rset_any vx x k s W (hB1.below hb).o (by omega)
  have hset := fun w2 (hb : Below w1.heap.size w1 w2) => set_intstring g v l k s w2 (hB1.t.below hb).t hB1.m.srt (by omega)
  have HS := Lib.hid hset
  have hfin : ∀ w2 w3 vx' e, Below w1.heap.size w1 w2 → OwnP w2 vx' (rset x k s) → (∀ b, vx'.ownBlock = some b → w1.heap.size ≤ b) → TPintstring w2 g v (.bool (tget cmpI l k).isNone) (tset cmpI l k s) e w3 →
      e = .returned (.bool (tget cmpI l k).isNone) ∧ ∀ n, StepPost w0 w g v (rset x k s, tset cmpI l k s) (.returned (.tuple #[vx', .bool true])) (w3.drewN n) := fun w2 w3 vx' e hb ho hv hp => by
    have hs1 := hb01.size
    obtain ⟨v', he, h1, h2, h3⟩ := both_of hB1 hb ho hv hp (hB.m.set_ k s)
    refine ⟨he, fun n => ⟨v', vx', rfl, ⟨⟨⟨h1.t.t.blk, h1.t.t.own⟩, ⟨h1.t.b.os, h1.t.b.tape, h1.t.b.output, h1.t.b.size, h1.t.b.block⟩, h1.t.g0, h1.t.v0⟩, h1.o, h1.m, h1.vx0⟩, ((Frm.of_below hb01).trans h2).drewN n, ?_⟩⟩
    rcases h3 with h | h
    · exact .inl h
    · exact .inr fun b hb => by have := h b hb; omega
  have HFI := Lib.hid hfin
  obtain ⟨A, c, rfl⟩ := own_slice hB.o
  have HC := Lib.hid (own_cells2 hB1.o)
  have HBD : Hid (Below w1.heap.size w1 w1.drew) := (Below.refl _ _).drew
  have HCB : Hid (∀ w2, Below w1.drew.heap.size w1.drew w2 → Below w1.heap.size w1 w2 ∧ w2.cell? ⟨w.heap.size, 1, none⟩ = some (.int .i64 k) ∧ w2.cell? ⟨w.heap.size, 2, none⟩ = some (.string s)) := fun w2 hb =>
    have hb' : Below w1.heap.size w1 w2 := ⟨hb.os, hb.tape, hb.output, hb.size, hb.block⟩
    ⟨hb', (hb'.cell (p := ⟨w.heap.size, 1, none⟩) hlt1).trans c1, (hb'.cell (p := ⟨w.heap.size, 2, none⟩) hlt1).trans c2⟩
  have hgN : g < w.heap.size := hB.t.t.blk.lt
  have hvN := hB.t.t.own.lt
  have HCS : Hid (∀ w2 r l' w3, Below w1.heap.size w1 w2 → ∀ e, TPintstring w2 g v r l' e w3 → w3.cell? ⟨w.heap.size, 1, none⟩ = some (.int .i64 k) ∧ w3.cell? ⟨w.heap.size, 2, none⟩ = some (.string s)) := by
    rintro w2 r l' w3 hb e ⟨v', _, _, hf, _⟩
    have hb3 := (hbox.below hb hlt1).frm hf (by
      simp only [List.mem_cons, List.not_mem_nil, or_false, not_or]
      exact ⟨fun e => by injection e with e; omega, fun e => by have := (hvN _ e.symm).2; omega⟩)
    exact ⟨by rw [hb3.cell]; rfl, by rw [hb3.cell]; rfl⟩
  rcases find_facts hB.m k with ⟨hq, hr⟩ | ⟨e, i, hq, hr, hi, hxi⟩
  · rw [hq] at HFI HS
    clear hset hfin hB hB1 hbox hb01 hq hgN hvN
    subst hw1
    generalize rfind x k = rf at *
    go_enter Try.func17, Try.ntmps17
    go_wp2_with (go_at_call 31; refine HF.out.mono ?_; rintro e w2 ⟨rfl, rfl⟩)
    go_region_held3 (fun w' => w'.cell? ⟨w.heap.size, 1, none⟩ = some (.int .i64 k) ∧ w'.cell? ⟨w.heap.size, 2, none⟩ = some (.string s)) (go_keep)
      (first | (go_at_call 13; refine (HRS.out _ HBD.out).mono ?_; rintro e w2 ⟨vx', rfl, ho, hb, hv⟩; obtain ⟨hb2, d1, d2⟩ := HCB.out _ hb; have HO2 := Lib.hid (show OwnP w2 vx' (rset x k s) from ho); have HV2 := Lib.hid hv; clear ho hv hb) | (go_at_call 12; refine (HS.out _ hb2).mono ?_; intro e w3 hp; obtain ⟨d3, d4⟩ := HCS.out _ _ _ _ hb2 _ hp; obtain ⟨rfl, hfn⟩ := HFI.out _ _ _ _ hb2 HO2.out HV2.out hp; have HFN := Lib.hid hfn; clear hfn hp))
    go_wp2_with fail
    go_ret2
    exact HFN.out 0
  · rw [hq] at HFI HS
    obtain ⟨r, rfl, hrl, h0, h1⟩ := HC.out i hi
    rw [hxi] at h0 h1
    obtain ⟨e1, e2⟩ := e
    simp only at h0 h1
    rw [hr] at HF
    clear hset hfin hB hB1 hbox hb01 hq hgN hvN hxi hr
    subst hw1
    go_enter Try.func17, Try.ntmps17
    go_wp2_with (go_at_call 31; refine HF.out.mono ?_; rintro e w2 ⟨rfl, rfl⟩)
    go_region_held3 (fun w' => w'.cell? ⟨w.heap.size, 1, none⟩ = some (.int .i64 k) ∧ w'.cell? ⟨w.heap.size, 2, none⟩ = some (.string s)) (go_keep)
      (first | (go_at_call 13; refine (HRS.out _ HBD.out).mono ?_; rintro e w2 ⟨vx', rfl, ho, hb, hv⟩; obtain ⟨hb2, d1, d2⟩ := HCB.out _ hb; have HO2 := Lib.hid (show OwnP w2 vx' (rset x k s) from ho); have HV2 := Lib.hid hv; clear ho hv hb) | (go_at_call 12; refine (HS.out _ hb2).mono ?_; intro e w3 hp; obtain ⟨d3, d4⟩ := HCS.out _ _ _ _ hb2 _ hp; obtain ⟨rfl, hfn⟩ := HFI.out _ _ _ _ hb2 HO2.out HV2.out hp; have HFN := Lib.hid hfn; clear hfn hp))
    go_wp2_with fail
    go_ret2
    exact HFN.out 0

theorem Both.same {w0 w w1 w' : World} {g : Nat} {v vx : Value} {l x : PL} (hB : Both w0 w g v vx l x) (hb : Below w.heap.size w w1) (hb' : Below w1.heap.size w1 w') : StepPost w0 w g v (x, l) (.returned (.tuple #[vx, .bool true])) w' :=
  ⟨v, vx, rfl, (hB.below hb).below hb', (Frm.of_below hb).thenBelow hb', .inl rfl⟩
set_option maxRecDepth 100000 in
set_option maxHeartbeats 1000000 in
theorem step_getN (w0 : World) (g : Nat) (v vx : Value) (l x : PL) (k : Int) (s : ByteArray) (w : World) (hB : Both w0 w g v vx l x) (hl : l.length ≤ 1000) (hx : x.length ≤ 1000)
    (hq : tget cmpI l k = none) (hr : rfind x k < 0) :
    Calls Try.prog 17 #[.pointer (some ⟨g, 0, none⟩), vx, .agg #[.int .i64 2, .int .i64 k, .string s]] w (StepPost w0 w g v (x, l)) := by
  obtain ⟨w1, hw1⟩ : ∃ w1, w1 = w.alloc (opBox ⟨2, k, s⟩) := ⟨_, rfl⟩
  have hb01 : Below w.heap.size w w1 := by rw [hw1]; exact (Below.refl _ _).alloc (Nat.le_refl _) _
  have hB1 := hB.below hb01
  have hbox : Blk w1 w.heap.size 38 #[.int .i64 2, .int .i64 k, .string s] := by rw [hw1]; exact Blk.new _ _ _
  have c1 : w1.cell? ⟨w.heap.size, 1, none⟩ = some (.int .i64 k) := by rw [hbox.cell]; rfl
  have hlt1 := hbox.lt
  have HF := Lib.hid (rfind_any vx x k w1 hB1.o (by omega))
  have hget := get_intstring g v l k w1 hB1.t.t hB.m.srt (by omega)
  have hhas := fun w2 (hb : Below w1.heap.size w1 w2) => has_intstring g v l k w2 (hB1.t.below hb).t hB.m.srt (by omega)
  have hcell := fun w2 (hb : Below w1.heap.size w1 w2) => (hb.cell (p := ⟨w.heap.size, 1, none⟩) hlt1).trans c1
  rw [hq] at hget
  have HG := Lib.hid hget; have HH := Lib.hid hhas; have HCL := Lib.hid hcell
  rw [hq] at HH
  have hfin := fun w' (hb : Below w1.heap.size w1 w') => hB.same hb01 hb
  have HFI := Lib.hid hfin
  obtain ⟨A, c, rfl⟩ := own_slice hB.o
  have HC := Lib.hid (own_cells2 hB1.o)
  clear hget hhas hcell hfin hB hB1 hbox hb01 hq
  subst hw1
  generalize rfind x k = rf at *
  have hge : decide (0 ≤ rf) = false := by simp; omega
  go_enter Try.func17, Try.ntmps17
  go_wp2_with (first
    | (go_at_call 31; refine HF.out.mono ?_; rintro e w2 ⟨rfl, rfl⟩)
    | (go_at_call 21; refine HG.out.mono ?_; rintro e w3 ⟨rfl, hb3⟩; have d1 := HCL.out _ hb3)
    | (go_at_call 32; refine (HH.out _ hb3).mono ?_; rintro e w4 ⟨rfl, hb4⟩; have HF4 := Lib.hid (HFI.out _ (hb3.trans (hb4.mono hb3.size)))))
  go_ret2
  exact HF4.out
set_option maxRecDepth 100000 in
set_option maxHeartbeats 1000000 in
theorem step_getY (w0 : World) (g : Nat) (v vx : Value) (l x : PL) (k : Int) (s : ByteArray) (w : World) (hB : Both w0 w g v vx l x) (hl : l.length ≤ 1000) (hx : x.length ≤ 1000)
    (e1 : Int) (e2 : ByteArray) (i : Nat) (hq : tget cmpI l k = some (e1, e2)) (hr : rfind x k = ((i : Nat) : Int)) (hi : i < x.length) (hxi : x[i] = (e1, e2)) :
    Calls Try.prog 17 #[.pointer (some ⟨g, 0, none⟩), vx, .agg #[.int .i64 2, .int .i64 k, .string s]] w (StepPost w0 w g v (x, l)) := by
  obtain ⟨w1, hw1⟩ : ∃ w1, w1 = w.alloc (opBox ⟨2, k, s⟩) := ⟨_, rfl⟩
  have hb01 : Below w.heap.size w w1 := by rw [hw1]; exact (Below.refl _ _).alloc (Nat.le_refl _) _
  have hB1 := hB.below hb01
  have hbox : Blk w1 w.heap.size 38 #[.int .i64 2, .int .i64 k, .string s] := by rw [hw1]; exact Blk.new _ _ _
  have c1 : w1.cell? ⟨w.heap.size, 1, none⟩ = some (.int .i64 k) := by rw [hbox.cell]; rfl
  have hlt1 := hbox.lt
  have HF := Lib.hid (rfind_any vx x k w1 hB1.o (by omega))
  have hget := get_intstring g v l k w1 hB1.t.t hB.m.srt (by omega)
  have hhas := fun w2 (hb : Below w1.heap.size w1 w2) => has_intstring g v l k w2 (hB1.t.below hb).t hB.m.srt (by omega)
  have hcell := fun w2 (hb : Below w1.heap.size w1 w2) => (hb.cell (p := ⟨w.heap.size, 1, none⟩) hlt1).trans c1
  rw [hq] at hget
  have HG := Lib.hid hget; have HH := Lib.hid hhas; have HCL := Lib.hid hcell
  rw [hq] at HH
  have hfin := fun w' (hb : Below w1.heap.size w1 w') => hB.same hb01 hb
  have HFI := Lib.hid hfin
  obtain ⟨A, c, rfl⟩ := own_slice hB.o
  have HC := Lib.hid (own_cells2 hB1.o)
  obtain ⟨r, rfl, hrl, h0, h1⟩ := HC.out i hi
  rw [hxi] at h0 h1
  simp only at h0 h1
  rw [hr] at HF
  clear hget hhas hcell hfin hB hB1 hbox hb01 hq hxi hr
  subst hw1
  go_enter Try.func17, Try.ntmps17
  go_wp2_with (first
    | (go_at_call 31; refine HF.out.mono ?_; rintro e w2 ⟨rfl, rfl⟩)
    | (go_at_call 21; refine HG.out.mono ?_; rintro e w3 ⟨rfl, hb3⟩; have d1 := HCL.out _ hb3)
    | (go_at_call 32; refine (HH.out _ hb3).mono ?_; rintro e w4 ⟨rfl, hb4⟩; have HF4 := Lib.hid (HFI.out _ (hb3.trans (hb4.mono hb3.size)))))
  go_ret2
  exact HF4.out

/-- The table's call first, then the list's. -/
theorem both_of2 {w0 w w1 w2 w3 : World} {g : Nat} {v vx vx' : Value} {l x l' x' : PL} {r : Value} {e : Ending} (hB : Both w0 w g v vx l x) (hb01 : Below w.heap.size w w1) (hp : TPintstring w1 g v r l' e w2) (hb : Below w2.heap.size w2 w3) (ho : OwnP w3 vx' x')
    (hv : ∀ b, vx'.ownBlock = some b → w0.heap.size ≤ b) (hm : Mtch x' l') : StepPost w0 w g v (x', l') (.returned (.tuple #[vx', .bool true])) w3 := by
  have hT := hB.t.below hb01
  obtain ⟨v', he, ht⟩ := hT.step hp
  obtain ⟨v2, he2, ht2, hf, hv2⟩ := hp
  have hs := hb01.size
  have hTv := hT.t.below (w' := w1) (Below.refl _ _)
  refine ⟨v2, vx', rfl, ⟨⟨ht2.below hb, ?_, hT.g0, fun b hb' => ?_⟩, ho, hm, hv⟩, ((Frm.of_below hb01).trans hf).thenBelow hb, ?_⟩
  · exact (ht.b).trans (hb.mono ht.b.size)
  · rcases hv2 with h | h
    · exact hT.v0 b (by rw [← h]; exact hb')
    · have := h b hb'; have := hT.b.size; omega
  · rcases hv2 with h | h
    · exact .inl h
    · exact .inr fun b hb' => by have := h b hb'; omega
set_option maxRecDepth 100000 in
set_option maxHeartbeats 1000000 in
theorem step_delN (w0 : World) (g : Nat) (v vx : Value) (l x : PL) (k : Int) (s : ByteArray) (w : World) (hB : Both w0 w g v vx l x) (hl : l.length ≤ 1000) (hx : x.length ≤ 1000)
    (hq : tget cmpI l k = none) (hr : rfind x k < 0) :
    Calls Try.prog 17 #[.pointer (some ⟨g, 0, none⟩), vx, .agg #[.int .i64 3, .int .i64 k, .string s]] w (StepPost w0 w g v (rdel x k, tdel cmpI l k)) := by
  obtain ⟨w1, hw1⟩ : ∃ w1, w1 = w.alloc (opBox ⟨3, k, s⟩) := ⟨_, rfl⟩
  have hb01 : Below w.heap.size w w1 := by rw [hw1]; exact (Below.refl _ _).alloc (Nat.le_refl _) _
  have hB1 := hB.below hb01
  have hbox : Blk w1 w.heap.size 38 #[.int .i64 3, .int .i64 k, .string s] := by rw [hw1]; exact Blk.new _ _ _
  have c1 : w1.cell? ⟨w.heap.size, 1, none⟩ = some (.int .i64 k) := by rw [hbox.cell]; rfl
  have HF := Lib.hid (rfind_any vx x k w1 hB1.o (by omega))
  have hdel := tdel_intstring g v l k w1 hB1.t.t hB.m.srt (by omega)
  rw [hq] at hdel
  have HD := Lib.hid hdel
  have hgN : g < w.heap.size := hB.t.t.blk.lt
  have hvN := hB.t.t.own.lt
  have HCS : Hid (∀ r l' w2 e, TPintstring w1 g v r l' e w2 → e = .returned r ∧ w2.cell? ⟨w.heap.size, 1, none⟩ = some (.int .i64 k) ∧ OwnP w2 vx x) := by
    rintro r l' w2 e ⟨v', he, _, hf, _⟩
    have hb3 := hbox.frm hf (by
      simp only [List.mem_cons, List.not_mem_nil, or_false, not_or]
      exact ⟨fun e => by injection e with e; omega, fun e => by have := (hvN _ e.symm).2; omega⟩)
    exact ⟨he, by rw [hb3.cell]; rfl, hf.own hB1.o (hB1.o.ne_ hB1.t.t)⟩
  have HRD := Lib.hid fun w2 (ho : OwnP w2 vx x) => rdel_any vx x k w2 ho (by omega)
  have hfin : ∀ r w2 w3 vx' e, TPintstring w1 g v r (tdel cmpI l k) e w2 → OwnP w3 vx' (rdel x k) → Below w2.heap.size w2 w3 → (∀ b, vx'.ownBlock = some b → w2.heap.size ≤ b) → StepPost w0 w g v (rdel x k, tdel cmpI l k) (.returned (.tuple #[vx', .bool true])) w3 := fun r w2 w3 vx' e hp ho hb hv =>
    both_of2 hB hb01 hp hb ho (fun b hb' => by
      have := hv b hb'
      obtain ⟨_, _, _, hf, _⟩ := hp
      have := hf.size; have := hB1.t.b.size; omega) (hB.m.del k)
  have HFI := Lib.hid hfin
  obtain ⟨A, c, rfl⟩ := own_slice hB.o
  have HC := Lib.hid (own_cells2 hB1.o)
  clear hdel hfin hB hB1 hbox hb01 hq hgN hvN
  subst hw1
  generalize rfind x k = rf at *
  have hge : decide (0 ≤ rf) = false := by simp; omega
  go_enter Try.func17, Try.ntmps17
  go_wp2_with (first
    | (go_at_call 31; refine HF.out.mono ?_; rintro e w2 ⟨rfl, rfl⟩)
    | (go_at_call 33; refine HD.out.mono ?_; intro e w3 hp; obtain ⟨rfl, d1, ho3⟩ := HCS.out _ _ _ _ hp; have HP := Lib.hid hp; have HO3 := Lib.hid ho3; clear hp ho3)
    | (go_at_call 29; refine (HRD.out _ HO3.out).mono ?_; rintro e w4 ⟨vx', rfl, ho, hb, hv⟩; have HF4 := Lib.hid (HFI.out _ _ _ _ _ HP.out ho hb hv); clear ho hb hv))
  go_ret2
  exact HF4.out
set_option maxRecDepth 100000 in
set_option maxHeartbeats 1000000 in
theorem step_delY (w0 : World) (g : Nat) (v vx : Value) (l x : PL) (k : Int) (s : ByteArray) (w : World) (hB : Both w0 w g v vx l x) (hl : l.length ≤ 1000) (hx : x.length ≤ 1000)
    (e1 : Int) (e2 : ByteArray) (i : Nat) (hq : tget cmpI l k = some (e1, e2)) (hr : rfind x k = ((i : Nat) : Int)) (hi : i < x.length) (hxi : x[i] = (e1, e2)) :
    Calls Try.prog 17 #[.pointer (some ⟨g, 0, none⟩), vx, .agg #[.int .i64 3, .int .i64 k, .string s]] w (StepPost w0 w g v (rdel x k, tdel cmpI l k)) := by
  obtain ⟨w1, hw1⟩ : ∃ w1, w1 = w.alloc (opBox ⟨3, k, s⟩) := ⟨_, rfl⟩
  have hb01 : Below w.heap.size w w1 := by rw [hw1]; exact (Below.refl _ _).alloc (Nat.le_refl _) _
  have hB1 := hB.below hb01
  have hbox : Blk w1 w.heap.size 38 #[.int .i64 3, .int .i64 k, .string s] := by rw [hw1]; exact Blk.new _ _ _
  have c1 : w1.cell? ⟨w.heap.size, 1, none⟩ = some (.int .i64 k) := by rw [hbox.cell]; rfl
  have HF := Lib.hid (rfind_any vx x k w1 hB1.o (by omega))
  have hdel := tdel_intstring g v l k w1 hB1.t.t hB.m.srt (by omega)
  rw [hq] at hdel
  have HD := Lib.hid hdel
  have hgN : g < w.heap.size := hB.t.t.blk.lt
  have hvN := hB.t.t.own.lt
  have HCS : Hid (∀ r l' w2 e, TPintstring w1 g v r l' e w2 → e = .returned r ∧ w2.cell? ⟨w.heap.size, 1, none⟩ = some (.int .i64 k) ∧ OwnP w2 vx x) := by
    rintro r l' w2 e ⟨v', he, _, hf, _⟩
    have hb3 := hbox.frm hf (by
      simp only [List.mem_cons, List.not_mem_nil, or_false, not_or]
      exact ⟨fun e => by injection e with e; omega, fun e => by have := (hvN _ e.symm).2; omega⟩)
    exact ⟨he, by rw [hb3.cell]; rfl, hf.own hB1.o (hB1.o.ne_ hB1.t.t)⟩
  have HRD := Lib.hid fun w2 (ho : OwnP w2 vx x) => rdel_any vx x k w2 ho (by omega)
  have hfin : ∀ r w2 w3 vx' e, TPintstring w1 g v r (tdel cmpI l k) e w2 → OwnP w3 vx' (rdel x k) → Below w2.heap.size w2 w3 → (∀ b, vx'.ownBlock = some b → w2.heap.size ≤ b) → StepPost w0 w g v (rdel x k, tdel cmpI l k) (.returned (.tuple #[vx', .bool true])) w3 := fun r w2 w3 vx' e hp ho hb hv =>
    both_of2 hB hb01 hp hb ho (fun b hb' => by
      have := hv b hb'
      obtain ⟨_, _, _, hf, _⟩ := hp
      have := hf.size; have := hB1.t.b.size; omega) (hB.m.del k)
  have HFI := Lib.hid hfin
  obtain ⟨A, c, rfl⟩ := own_slice hB.o
  have HC := Lib.hid (own_cells2 hB1.o)
  obtain ⟨r, rfl, hrl, h0, h1⟩ := HC.out i hi
  rw [hxi] at h0 h1
  simp only at h0 h1
  rw [hr] at HF
  clear hdel hfin hB hB1 hbox hb01 hq hgN hvN hxi hr
  subst hw1
  go_enter Try.func17, Try.ntmps17
  go_wp2_with (first
    | (go_at_call 31; refine HF.out.mono ?_; rintro e w2 ⟨rfl, rfl⟩)
    | (go_at_call 33; refine HD.out.mono ?_; intro e w3 hp; obtain ⟨rfl, d1, ho3⟩ := HCS.out _ _ _ _ hp; have HP := Lib.hid hp; have HO3 := Lib.hid ho3; clear hp ho3)
    | (go_at_call 29; refine (HRD.out _ HO3.out).mono ?_; rintro e w4 ⟨vx', rfl, ho, hb, hv⟩; have HF4 := Lib.hid (HFI.out _ _ _ _ _ HP.out ho hb hv); clear ho hb hv))
  go_ret2
  exact HF4.out

set_option maxRecDepth 100000 in
set_option maxHeartbeats 1000000 in
theorem step_noneN (w0 : World) (g : Nat) (v vx : Value) (l x : PL) (kd k : Int) (s : ByteArray) (w : World) (hB : Both w0 w g v vx l x) (hx : x.length ≤ 1000) (hk : kd ≠ 1 ∧ kd ≠ 2 ∧ kd ≠ 3 ∧ kd ≠ 4)
    (hr : rfind x k < 0) :
    Calls Try.prog 17 #[.pointer (some ⟨g, 0, none⟩), vx, .agg #[.int .i64 kd, .int .i64 k, .string s]] w (StepPost w0 w g v (x, l)) := by
  obtain ⟨w1, hw1⟩ : ∃ w1, w1 = w.alloc (opBox ⟨kd, k, s⟩) := ⟨_, rfl⟩
  have hb01 : Below w.heap.size w w1 := by rw [hw1]; exact (Below.refl _ _).alloc (Nat.le_refl _) _
  have hB1 := hB.below hb01
  have HF := Lib.hid (rfind_any vx x k w1 hB1.o (by omega))
  have HFI := Lib.hid (hB.same hb01 (Below.refl _ _))
  obtain ⟨A, c, rfl⟩ := own_slice hB.o
  have HC := Lib.hid (own_cells2 hB1.o)
  obtain ⟨hk1, hk2, hk3, hk4⟩ := hk
  have q1 : (kd == 1) = false := by simpa using hk1
  have q2 : (kd == 2) = false := by simpa using hk2
  have q3 : (kd == 3) = false := by simpa using hk3
  have q4 : (kd == 4) = false := by simpa using hk4
  clear hB hB1 hb01
  subst hw1
  generalize rfind x k = rf at *
  have hge : decide (0 ≤ rf) = false := by simp; omega
  go_enter Try.func17, Try.ntmps17
  go_wp2_with (go_at_call 31; refine HF.out.mono ?_; rintro e w2 ⟨rfl, rfl⟩)
  go_ret2
  exact HFI.out
set_option maxRecDepth 100000 in
set_option maxHeartbeats 1000000 in
theorem step_noneY (w0 : World) (g : Nat) (v vx : Value) (l x : PL) (kd k : Int) (s : ByteArray) (w : World) (hB : Both w0 w g v vx l x) (hx : x.length ≤ 1000) (hk : kd ≠ 1 ∧ kd ≠ 2 ∧ kd ≠ 3 ∧ kd ≠ 4)
    (e1 : Int) (e2 : ByteArray) (i : Nat) (hr : rfind x k = ((i : Nat) : Int)) (hi : i < x.length) (hxi : x[i] = (e1, e2)) :
    Calls Try.prog 17 #[.pointer (some ⟨g, 0, none⟩), vx, .agg #[.int .i64 kd, .int .i64 k, .string s]] w (StepPost w0 w g v (x, l)) := by
  obtain ⟨w1, hw1⟩ : ∃ w1, w1 = w.alloc (opBox ⟨kd, k, s⟩) := ⟨_, rfl⟩
  have hb01 : Below w.heap.size w w1 := by rw [hw1]; exact (Below.refl _ _).alloc (Nat.le_refl _) _
  have hB1 := hB.below hb01
  have HF := Lib.hid (rfind_any vx x k w1 hB1.o (by omega))
  have HFI := Lib.hid (hB.same hb01 (Below.refl _ _))
  obtain ⟨A, c, rfl⟩ := own_slice hB.o
  have HC := Lib.hid (own_cells2 hB1.o)
  obtain ⟨hk1, hk2, hk3, hk4⟩ := hk
  have q1 : (kd == 1) = false := by simpa using hk1
  have q2 : (kd == 2) = false := by simpa using hk2
  have q3 : (kd == 3) = false := by simpa using hk3
  have q4 : (kd == 4) = false := by simpa using hk4
  obtain ⟨r, rfl, hrl, h0, h1⟩ := HC.out i hi
  rw [hxi] at h0 h1
  simp only at h0 h1
  rw [hr] at HF
  clear hB hB1 hb01 hxi hr
  subst hw1
  go_enter Try.func17, Try.ntmps17
  go_wp2_with (go_at_call 31; refine HF.out.mono ?_; rintro e w2 ⟨rfl, rfl⟩)
  go_ret2
  exact HFI.out

set_option maxRecDepth 100000 in
set_option maxHeartbeats 1000000 in
theorem step_popN (w0 : World) (g : Nat) (v vx : Value) (l x : PL) (k : Int) (s : ByteArray) (w : World) (hB : Both w0 w g v vx l x) (hl : l.length ≤ 1000) (hx : x.length ≤ 1000)
    (hr : rfind x k < 0) :
    Calls Try.prog 17 #[.pointer (some ⟨g, 0, none⟩), vx, .agg #[.int .i64 4, .int .i64 k, .string s]] w (StepPost w0 w g v (rstep x l ⟨4, k, s⟩)) := by
  obtain ⟨w1, hw1⟩ : ∃ w1, w1 = w.alloc (opBox ⟨4, k, s⟩) := ⟨_, rfl⟩
  have hb01 : Below w.heap.size w w1 := by rw [hw1]; exact (Below.refl _ _).alloc (Nat.le_refl _) _
  have hB1 := hB.below hb01
  have HF := Lib.hid (rfind_any vx x k w1 hB1.o (by omega))
  obtain ⟨A, c, rfl⟩ := own_slice hB.o
  have HC := Lib.hid (own_cells2 hB1.o)
  have hr0 : decide (0 ≤ rfind x k) = false := by simp; omega
  cases l with
  | nil =>
    have hx0 : x = [] := List.eq_nil_iff_forall_not_mem.2 fun e he => absurd ((hB.m.mem e).1 he) (by simp)
    subst hx0
    have HP := Lib.hid (pop_nil_intstring g v w1 hB1.t.t)
    have hfin : ∀ r w2 e, TPintstring w1 g v r [] e w2 → e = .returned r ∧ StepPost w0 w g v (rstep [] [] ⟨4, k, s⟩) (.returned (.tuple #[.slice A ([] : PL).length c, .bool true])) w2 := fun r w2 e hp =>
      ⟨by obtain ⟨_, he, _⟩ := hp; exact he, both_of2 hB hb01 hp (Below.refl _ _) (by obtain ⟨_, _, _, hf, _⟩ := hp; exact hf.own hB1.o (hB1.o.ne_ hB1.t.t)) hB.vx0 Mtch.nil⟩
    have HFI := Lib.hid hfin
    clear hfin hB hB1 hb01
    subst hw1
    generalize rfind [] k = rf at *
    go_enter Try.func17, Try.ntmps17
    go_wp2_with (first
      | (go_at_call 31; refine HF.out.mono ?_; rintro e w2 ⟨rfl, rfl⟩)
      | (go_at_call 15; refine HP.out.mono ?_; intro e w3 hp; obtain ⟨rfl, hfn⟩ := HFI.out _ _ _ hp; have HN := Lib.hid hfn; clear hfn hp))
    go_ret2
    exact HN.out
  | cons e l =>
    have hpos : 0 < x.length := List.length_pos_iff.2 fun h => absurd ((hB.m.mem e).2 (by simp)) (by rw [h]; simp)
    have hso := hB.m.sorted
    have hpop := pop_cons_intstring g v e l w1 hB1.t.t (by omega)
    obtain ⟨ek, ev⟩ := e
    have hgl := hB1.t.t.blk.lt
    have HP := Lib.hid hpop
    have hstep : ∀ rr w2 e, TPintstring w1 g v rr l e w2 → e = .returned rr ∧ OwnP w2 (.slice A x.length c) x := fun rr w2 e ⟨_, he, _, hf, _⟩ => ⟨he, hf.own hB1.o (hB1.o.ne_ hB1.t.t)⟩
    have HST := Lib.hid hstep
    have hsort := fun w2 (ho : OwnP w2 (.slice A x.length c) x) => rsorted_any _ x w2 ho (by omega)
    rw [hso] at hsort
    have HSO := Lib.hid hsort
    have HRD := Lib.hid fun w3 (ho : OwnP w3 (.slice A x.length c) x) => rdel_any _ x ek w3 ho (by omega)
    have hs1 := hb01.size
    have hfin : ∀ r w2 w3 vx' e, TPintstring w1 g v r l e w2 → OwnP w3 vx' (rdel x ek) → Below w2.heap.size w2 w3 → (∀ b, vx'.ownBlock = some b → w2.heap.size ≤ b) → ∀ n, StepPost w0 w g v (rstep x ((ek, ev) :: l) ⟨4, k, s⟩) (.returned (.tuple #[vx', .bool true])) (w3.drewN n) := fun r w2 w3 vx' e hp ho hb hv n =>
      both_of2 hB hb01 hp (show Below w2.heap.size w2 (w3.drewN n) from ⟨hb.os, hb.tape, hb.output, hb.size, hb.block⟩) ho (fun b hb' => by
        have := hv b hb'
        obtain ⟨_, _, _, hf, _⟩ := hp
        have := hf.size; have := hB1.t.b.size; omega) (by
        have := hB.m.del ek
        have ht : tdel cmpI ((ek, ev) :: l) ek = l := by
          have hs := List.pairwise_cons.1 hB.m.srt
          have hz : cmpI ek ek = 0 := (cmpI_ok.eq _ _).2 rfl
          have h0 : tix cmpI ((ek, ev) :: l) ek = 0 := by rw [tix_cons, if_neg (by simp [hz])]
          unfold tdel
          rw [tget_some (e := (ek, ev)) (by rw [h0]; rfl) hz, h0]
          rfl
        rw [ht] at this
        exact this)
    have HFI := Lib.hid hfin
    have hlen : ((x.length : Int) == 0) = false := by rw [beq_eq_false_iff_ne]; omega
    clear hfin hB hB1 hb01 hso hpop hstep hsort hpos
    subst hw1
    generalize rfind x k = rf at *
    go_enter Try.func17, Try.ntmps17
    go_wp2_with (first
      | (go_at_call 31; refine HF.out.mono ?_; rintro e w2 ⟨rfl, rfl⟩)
      | (go_at_call 15; refine HP.out.mono ?_; intro e w3 hp; obtain ⟨rfl, ho3⟩ := HST.out _ _ _ hp; have HO3 := Lib.hid ho3; have HPP := Lib.hid hp; clear ho3 hp)
      | (go_at_call 14; go_loud (refine (HSO.out _ HO3.out).mono ?_); go_loud (rintro e w4 ⟨vs, rfl, hos, hbs, hvs⟩); go_loud (obtain ⟨A2, c2, rfl⟩ := own_slice hos); go_loud (obtain ⟨r2, hA2, hr2l, k0, k1⟩ := own_cells2 (kv := fun k => Value.int .i64 k) (vv := fun x => Value.string x) (l := (ek, ev) :: l) hos 0 (by simp)); go_loud (subst hA2); go_loud (simp only [List.getElem_cons_zero, Nat.zero_mul, Nat.zero_add] at k0 k1); go_loud (have HO4 := Lib.hid ((Frm.of_below hbs (S := [])).own HO3.out (by simp))); have HB4 := Lib.hid hbs; go_loud (have hnl : (0 : Int) < (((ek, ev) :: l).length : Int) := by (simp)); go_loud (clear hos hbs hvs)))
    have hb5 : Below w3.heap.size w3 (w4.alloc (.cells #[.int .i64 ek, .string ev] 43)).drew := (HB4.out.alloc HB4.out.size _).drew
    have HBX : Hid (∀ w5, Below (w4.alloc (.cells #[.int .i64 ek, .string ev] 43)).drew.heap.size (w4.alloc (.cells #[.int .i64 ek, .string ev] 43)).drew w5 → w5.cell? ⟨w4.heap.size, 0, none⟩ = some (.int .i64 ek) ∧ w5.cell? ⟨w4.heap.size, 1, none⟩ = some (.string ev) ∧ Below w3.heap.size w3 w5) := fun w5 hb =>
      have hbk : Blk (w4.alloc (.cells #[.int .i64 ek, .string ev] 43)).drew w4.heap.size 43 #[.int .i64 ek, .string ev] := Blk.new _ _ _
      have hbk5 := hbk.below hb hbk.lt
      ⟨by rw [hbk5.cell]; rfl, by rw [hbk5.cell]; rfl, hb5.trans (hb.mono hb5.size)⟩
    have HO5 : Hid (OwnP (w4.alloc (.cells #[.int .i64 ek, .string ev] 43)).drew (.slice A x.length c) x) := HO4.out.alloc _
    have HV5 : Hid (w3.heap.size ≤ (w4.alloc (.cells #[.int .i64 ek, .string ev] 43)).drew.heap.size) := hb5.size
    clear hb5
    go_region_held3 (fun w' => w'.cell? ⟨w4.heap.size, 0, none⟩ = some (.int .i64 ek) ∧ w'.cell? ⟨w4.heap.size, 1, none⟩ = some (.string ev)) (go_keep)
      (first | (go_at_call 29; refine (HRD.out _ HO5.out).mono ?_; rintro e w5 ⟨vx', rfl, ho, hb, hv⟩; obtain ⟨d1, d2, hb35⟩ := HBX.out _ hb; have HN := Lib.hid (HFI.out _ _ _ _ _ HPP.out ho hb35 (fun b hb' => Nat.le_trans HV5.out (hv b hb'))); clear ho hb hv hb35))
    go_wp2_with fail
    go_ret2
    exact HN.out 0
set_option maxRecDepth 100000 in
set_option maxHeartbeats 1000000 in
theorem step_popY (w0 : World) (g : Nat) (v vx : Value) (l x : PL) (k : Int) (s : ByteArray) (w : World) (hB : Both w0 w g v vx l x) (hl : l.length ≤ 1000) (hx : x.length ≤ 1000)
    (e1 : Int) (e2 : ByteArray) (i : Nat) (hr : rfind x k = ((i : Nat) : Int)) (hi : i < x.length) (hxi : x[i] = (e1, e2)) :
    Calls Try.prog 17 #[.pointer (some ⟨g, 0, none⟩), vx, .agg #[.int .i64 4, .int .i64 k, .string s]] w (StepPost w0 w g v (rstep x l ⟨4, k, s⟩)) := by
  obtain ⟨w1, hw1⟩ : ∃ w1, w1 = w.alloc (opBox ⟨4, k, s⟩) := ⟨_, rfl⟩
  have hb01 : Below w.heap.size w w1 := by rw [hw1]; exact (Below.refl _ _).alloc (Nat.le_refl _) _
  have hB1 := hB.below hb01
  have HF := Lib.hid (rfind_any vx x k w1 hB1.o (by omega))
  obtain ⟨A, c, rfl⟩ := own_slice hB.o
  have HC := Lib.hid (own_cells2 hB1.o)
  obtain ⟨r, rfl, hrl, h0, h1⟩ := HC.out i hi
  rw [hxi] at h0 h1
  simp only at h0 h1
  rw [hr] at HF
  clear hxi hr
  cases l with
  | nil =>
    have hx0 : x = [] := List.eq_nil_iff_forall_not_mem.2 fun e he => absurd ((hB.m.mem e).1 he) (by simp)
    subst hx0
    simp at hi
  | cons e l =>
    have hpos : 0 < x.length := List.length_pos_iff.2 fun h => absurd ((hB.m.mem e).2 (by simp)) (by rw [h]; simp)
    have hso := hB.m.sorted
    have hpop := pop_cons_intstring g v e l w1 hB1.t.t (by omega)
    obtain ⟨ek, ev⟩ := e
    have hgl := hB1.t.t.blk.lt
    have HP := Lib.hid hpop
    have hstep : ∀ rr w2 e, TPintstring w1 g v rr l e w2 → e = .returned rr ∧ OwnP w2 (.slice (some ⟨r, 0, none⟩) x.length c) x := fun rr w2 e ⟨_, he, _, hf, _⟩ => ⟨he, hf.own hB1.o (hB1.o.ne_ hB1.t.t)⟩
    have HST := Lib.hid hstep
    have hsort := fun w2 (ho : OwnP w2 (.slice (some ⟨r, 0, none⟩) x.length c) x) => rsorted_any _ x w2 ho (by omega)
    rw [hso] at hsort
    have HSO := Lib.hid hsort
    have HRD := Lib.hid fun w3 (ho : OwnP w3 (.slice (some ⟨r, 0, none⟩) x.length c) x) => rdel_any _ x ek w3 ho (by omega)
    have hs1 := hb01.size
    have hfin : ∀ r w2 w3 vx' e, TPintstring w1 g v r l e w2 → OwnP w3 vx' (rdel x ek) → Below w2.heap.size w2 w3 → (∀ b, vx'.ownBlock = some b → w2.heap.size ≤ b) → ∀ n, StepPost w0 w g v (rstep x ((ek, ev) :: l) ⟨4, k, s⟩) (.returned (.tuple #[vx', .bool true])) (w3.drewN n) := fun r w2 w3 vx' e hp ho hb hv n =>
      both_of2 hB hb01 hp (show Below w2.heap.size w2 (w3.drewN n) from ⟨hb.os, hb.tape, hb.output, hb.size, hb.block⟩) ho (fun b hb' => by
        have := hv b hb'
        obtain ⟨_, _, _, hf, _⟩ := hp
        have := hf.size; have := hB1.t.b.size; omega) (by
        have := hB.m.del ek
        have ht : tdel cmpI ((ek, ev) :: l) ek = l := by
          have hs := List.pairwise_cons.1 hB.m.srt
          have hz : cmpI ek ek = 0 := (cmpI_ok.eq _ _).2 rfl
          have h0 : tix cmpI ((ek, ev) :: l) ek = 0 := by rw [tix_cons, if_neg (by simp [hz])]
          unfold tdel
          rw [tget_some (e := (ek, ev)) (by rw [h0]; rfl) hz, h0]
          rfl
        rw [ht] at this
        exact this)
    have HFI := Lib.hid hfin
    have hlen : ((x.length : Int) == 0) = false := by rw [beq_eq_false_iff_ne]; omega
    clear hfin hB hB1 hb01 hso hpop hstep hsort hpos
    subst hw1
    generalize rfind x k = rf at *
    go_enter Try.func17, Try.ntmps17
    go_wp2_with (first
      | (go_at_call 31; refine HF.out.mono ?_; rintro e w2 ⟨rfl, rfl⟩)
      | (go_at_call 15; refine HP.out.mono ?_; intro e w3 hp; obtain ⟨rfl, ho3⟩ := HST.out _ _ _ hp; have HO3 := Lib.hid ho3; have HPP := Lib.hid hp; clear ho3 hp)
      | (go_at_call 14; go_loud (refine (HSO.out _ HO3.out).mono ?_); go_loud (rintro e w4 ⟨vs, rfl, hos, hbs, hvs⟩); go_loud (obtain ⟨A2, c2, rfl⟩ := own_slice hos); go_loud (obtain ⟨r2, hA2, hr2l, k0, k1⟩ := own_cells2 (kv := fun k => Value.int .i64 k) (vv := fun x => Value.string x) (l := (ek, ev) :: l) hos 0 (by simp)); go_loud (subst hA2); go_loud (simp only [List.getElem_cons_zero, Nat.zero_mul, Nat.zero_add] at k0 k1); go_loud (have HO4 := Lib.hid ((Frm.of_below hbs (S := [])).own HO3.out (by simp))); have HB4 := Lib.hid hbs; go_loud (have hnl : (0 : Int) < (((ek, ev) :: l).length : Int) := by (simp)); go_loud (clear hos hbs hvs)))
    have hb5 : Below w3.heap.size w3 (w4.alloc (.cells #[.int .i64 ek, .string ev] 43)).drew := (HB4.out.alloc HB4.out.size _).drew
    have HBX : Hid (∀ w5, Below (w4.alloc (.cells #[.int .i64 ek, .string ev] 43)).drew.heap.size (w4.alloc (.cells #[.int .i64 ek, .string ev] 43)).drew w5 → w5.cell? ⟨w4.heap.size, 0, none⟩ = some (.int .i64 ek) ∧ w5.cell? ⟨w4.heap.size, 1, none⟩ = some (.string ev) ∧ Below w3.heap.size w3 w5) := fun w5 hb =>
      have hbk : Blk (w4.alloc (.cells #[.int .i64 ek, .string ev] 43)).drew w4.heap.size 43 #[.int .i64 ek, .string ev] := Blk.new _ _ _
      have hbk5 := hbk.below hb hbk.lt
      ⟨by rw [hbk5.cell]; rfl, by rw [hbk5.cell]; rfl, hb5.trans (hb.mono hb5.size)⟩
    have HO5 : Hid (OwnP (w4.alloc (.cells #[.int .i64 ek, .string ev] 43)).drew (.slice (some ⟨r, 0, none⟩) x.length c) x) := HO4.out.alloc _
    have HV5 : Hid (w3.heap.size ≤ (w4.alloc (.cells #[.int .i64 ek, .string ev] 43)).drew.heap.size) := hb5.size
    clear hb5
    go_region_held3 (fun w' => w'.cell? ⟨w4.heap.size, 0, none⟩ = some (.int .i64 ek) ∧ w'.cell? ⟨w4.heap.size, 1, none⟩ = some (.string ev)) (go_keep)
      (first | (go_at_call 29; refine (HRD.out _ HO5.out).mono ?_; rintro e w5 ⟨vx', rfl, ho, hb, hv⟩; obtain ⟨d1, d2, hb35⟩ := HBX.out _ hb; have HN := Lib.hid (HFI.out _ _ _ _ _ HPP.out ho hb35 (fun b hb' => Nat.le_trans HV5.out (hv b hb'))); clear ho hb hv hb35))
    go_wp2_with fail
    go_ret2
    exact HN.out 0
end Go.Proofs.Ytfoaalfkjknklaa
