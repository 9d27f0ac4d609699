/- Lemmas: Memory words and laws of no program: frames, whole blocks, rows of any element size. · Arguments that are slices of structs, opened to lists. · Arguments that are slices of whole numbers, or structs with such fields, opened to the print's words. · Rows of whole numbers that came in, element by element. · A map from parts to answers, whose entries are all right. · The least cost of a part, as the solver reckons it. · The solver as it lies, and what only reads it: grad, own, one, step. · The solver's one and step. · The solver's step. · Laws of no program: copy, clear and append on rows of any element size, as run equations and as steps of a walk. · What the solver knows: a map from parts to their answers. · The solver's split, over what its ask does on smaller parts. · append of zeros ('append(s, make([]T, n)...)') onto a row that its caller owns. Conditions: n is above 0, and the row's bytes are bounded. · The solver's split, walked over its ask. · The solver's ask, walked: any part within the chain. · A chain's Right, walked: any words and costs; the print's form. · The chain's solve, walked. · The plan's writer as it lies; its do and reckon, walked. · Plans, plainly: where the solver splits; what the writer writes. · The least cost, plainly: more words never cost more; every node is paid once; with enough words just once. · A chain's Least, in the print's form. Conditions: none beyond each lemma's own. -/
import Derived.Below
import Derived.Deep.Draws
import Derived.Deep.AppendLies
import Derived.Maps.AppendAt
import Derived.OwnWalk
import Derived.Laws.BytesArg
import Derived.Laws.MakeOwn
import Derived.Laws.OwnMore
import Derived.Deep.OwnRows
import Derived.Tactics
import Derived.Lib.ConvBytes
import Derived.Laws.Slices
import Derived.WalkKit
import Derived.KernelRfl
import Derived.RowKit3
import Derived.Deep.LoopGhost
import Derived.Deep.QuietTactic
import Derived.BigQuiet
import Derived.WideLaws
import Derived.Deep.DeepCutAuto
import Derived.Deep.CutBlock
import Derived.Deep.RegionHeld3
import Derived.Laws.Rows
import Derived.Lib.AppendStr
import Derived.ArgAppend
import Derived.Laws.IdiomCopy
import Derived.RowKit
import Derived.OrdersHeld
import Derived.Laws.BitsLemmas
import Derived.WalkSpells
import Derived.WalkLawsBesides
import Derived.Lib.Hide
import Derived.Deep.RegionLaw
import Derived.Laws.CopyOwn
import Derived.Laws.Externs
import Derived.Lib.Overlaps
import Derived.Lib.AppendZeros
import Derived.Deep.Slices
import Derived.Deep.Fields
import Derived.ChangeSame
import Derived.ProofKit
import Derived.Test.YtiejdbdbafmccaaProg
import Derived.DeepKeys4
import Derived.Maps.Keyed
import Derived.Lib.AppendZerosOnto
import Derived.Test.YtiejdbdbafmccaaMC2
set_option linter.unusedVariables false
set_option linter.unusedSimpArgs false
/- part Mem -/
namespace Go.Proofs.Ytiejdbdbafmccaa
open Go.RowKit
structure Frm (S : List (Option Nat)) (w w' : World) : Prop where
  os : w'.os = w.os
  tape : w'.tape = w.tape
  output : w'.output = w.output
  size : w.heap.size ≤ w'.heap.size
  block : ∀ k, k < w.heap.size → some k ∉ S → w'.heap[k]? = w.heap[k]?
theorem Frm.refl (S : List (Option Nat)) (w : World) : Frm S w w := ⟨rfl, rfl, rfl, Nat.le_refl _, fun _ _ _ => rfl⟩
theorem Frm.trans' {S S' : List (Option Nat)} {a b c : World} (h : Frm S a b) (k : Frm S' b c) (hS : ∀ x, some x ∈ S' → some x ∈ S ∨ a.heap.size ≤ x) : Frm S a c :=
  ⟨k.os.trans h.os, k.tape.trans h.tape, k.output.trans h.output, Nat.le_trans h.size k.size, fun i hi hn =>
    (k.block i (Nat.lt_of_lt_of_le hi h.size) (fun e => by rcases hS i e with h1 | h1; exact hn h1; omega)).trans (h.block i hi hn)⟩
theorem Frm.trans {S : List (Option Nat)} {a b c : World} (h : Frm S a b) (k : Frm S b c) : Frm S a c := h.trans' k fun _ hx => .inl hx
theorem Frm.mono {S S' : List (Option Nat)} {a b : World} (h : Frm S a b) (hS : ∀ x, some x ∈ S → some x ∈ S' ∨ a.heap.size ≤ x) : Frm S' a b :=
  ⟨h.os, h.tape, h.output, h.size, fun i hi hn => h.block i hi (fun e => by rcases hS i e with h1 | h1; exact hn h1; omega)⟩
theorem Frm.drew {S : List (Option Nat)} {a w : World} (h : Frm S a w) : Frm S a w.drew := ⟨h.os, h.tape, h.output, h.size, h.block⟩
theorem Frm.drewN {S : List (Option Nat)} {a w : World} (h : Frm S a w) (n : Nat) : Frm S a (w.drewN n) := ⟨h.os, h.tape, h.output, h.size, h.block⟩
theorem Frm.alloc {S : List (Option Nat)} {a w : World} (h : Frm S a w) (o : Obj) : Frm S a (w.alloc o) :=
  h.trans ⟨rfl, rfl, rfl, by simp, fun k hk _ => Below.heap_alloc _ _ _ hk⟩
theorem Frm.setCell {S : List (Option Nat)} {a w : World} (h : Frm S a w) {p : Addr} (hp : some p.block ∈ S ∨ a.heap.size ≤ p.block) (u : Value) : Frm S a (w.setCell p u) :=
  h.trans' (S' := [some p.block]) ⟨rfl, rfl, rfl, by simp [World.setCell], fun k _ hn => Below.heap_setCell _ _ _ _ (fun e => hn (by simp [e]))⟩
    (fun x hx => by simp at hx; subst hx; exact hp)
theorem Frm.grown {S : List (Option Nat)} {a w w' : World} {row : Option Nat} (h : Frm S a w) (hg : w.grownBy w' row) (hr : ∀ k, row = some k → some k ∈ S ∨ a.heap.size ≤ k) : Frm S a w' :=
  h.trans' (S' := [row]) ⟨hg.os, hg.tape, hg.output, hg.size, fun k hk hn => hg.block k hk (fun e => hn (by simp [e]))⟩
    (fun x hx => by simp at hx; exact hr x hx.symm)
theorem Frm.of_below {S : List (Option Nat)} {w w' : World} (h : Below w.heap.size w w') : Frm S w w' := ⟨h.os, h.tape, h.output, h.size, fun k hk _ => h.block k hk⟩
theorem Frm.thenBelow {S : List (Option Nat)} {a w w' : World} (h : Frm S a w) (hb : Below w.heap.size w w') : Frm S a w' := h.trans (Frm.of_below hb)
theorem Frm.of_below_le {S : List (Option Nat)} {B : Nat} {w w' : World} (h : Below B w w') (hB : w.heap.size ≤ B) : Frm S w w' := Frm.of_below (h.mono hB)
theorem Frm.below {S : List (Option Nat)} {w w' : World} (h : Frm S w w') {B : Nat} (hB : B ≤ w.heap.size) (hS : ∀ x, some x ∈ S → B ≤ x) : Below B w w' :=
  ⟨h.os, h.tape, h.output, h.size, fun k hk => h.block k (by omega) (fun e => by have := hS k e; omega)⟩
theorem Frm.grownBy {r : Option Nat} {w w' : World} (h : Frm [r] w w') : w.grownBy w' r :=
  ⟨h.os, h.tape, h.output, h.size, fun k hk hn => h.block k hk (by simpa using hn)⟩
theorem Frm.cell {S : List (Option Nat)} {w w' : World} (h : Frm S w w') {p : Addr} (hp : p.block < w.heap.size) (hn : some p.block ∉ S) : w'.cell? p = w.cell? p :=
  World.cell?_of_block (w := w) (h.block p.block hp hn)
theorem Frm.own {S : List (Option Nat)} {w w' : World} (h : Frm S w w') {base e sz n : Nat} {v : Value} {xs : List Value} (ho : w.ownsRow base e sz v n xs) (hn : ∀ b, v.ownBlock = some b → some b ∉ S) : w'.ownsRow base e sz v n xs := by
  refine ⟨ho.1, ?_⟩
  rcases ho.2 with h0 | ⟨g, cap, cur, rfl, hb, hg, r⟩
  · exact .inl h0
  · exact .inr ⟨g, cap, cur, rfl, hb, (h.block g (Array.getElem?_eq_some_iff.1 hg).1 (hn g rfl)).trans hg, r⟩
theorem grownBy_of_drew {w w' : World} {r : Option Nat} (h : w.drew.grownBy w' r) : w.grownBy w' r := ⟨h.os, h.tape, h.output, h.size, h.block⟩
def Blk (w : World) (g : Nat) (t : TypeId) (cs : Array Value) : Prop := w.heap[g]? = some (.cells cs t (0, 0))
section
variable {w w' : World} {g : Nat} {t : TypeId} {cs : Array Value}
theorem Blk.lt (h : Blk w g t cs) : g < w.heap.size := by
  rcases Nat.lt_or_ge g w.heap.size with hlt | hge
  · exact hlt
  · unfold Blk at h; rw [Array.getElem?_eq_none hge] at h; cases h
theorem Blk.cell (h : Blk w g t cs) (i : Nat) : w.cell? ⟨g, i, none⟩ = cs[i]? := cell_of_row w g i cs t (0, 0) h
theorem Blk.frozen (h : Blk w g t cs) (i : Nat) : w.frozen? ⟨g, i, none⟩ = false := by
  unfold Blk at h
  simp [World.frozen?, h]
theorem Blk.new (w : World) (t : TypeId) (cs : Array Value) : Blk (w.alloc (.cells cs t)) w.heap.size t cs := heap_alloc_new w _
theorem Blk.drew (h : Blk w g t cs) : Blk w.drew g t cs := h
theorem Blk.drewN (h : Blk w g t cs) (n : Nat) : Blk (w.drewN n) g t cs := h
theorem Blk.alloc (h : Blk w g t cs) (o : Obj) : Blk (w.alloc o) g t cs := (Below.heap_alloc w o g h.lt).trans h
theorem Blk.set_ (h : Blk w g t cs) (i : Nat) (u : Value) : Blk (w.setCell ⟨g, i, none⟩ u) g t (cs.setIfInBounds i u) := by
  unfold Blk at h ⊢
  simp [World.setCell, Array.getElem?_modify, h]
theorem Blk.far (h : Blk w g t cs) {p : Addr} (hp : g ≠ p.block) (u : Value) : Blk (w.setCell p u) g t cs := (Below.heap_setCell w p u g hp).trans h
theorem Blk.below {B : Nat} (h : Blk w g t cs) (hb : Below B w w') (hg : g < B) : Blk w' g t cs := (hb.block g hg).trans h
theorem Blk.frm {S : List (Option Nat)} (h : Blk w g t cs) (hb : Frm S w w') (hg : some g ∉ S) : Blk w' g t cs := (hb.block g h.lt hg).trans h
theorem Blk.grown {row : Option Nat} (h : Blk w g t cs) (hb : w.grownBy w' row) (hg : some g ≠ row) : Blk w' g t cs := (hb.block g h.lt hg).trans h
theorem Blk.ne_ {g' : Nat} {t' : TypeId} {cs' : Array Value} (h : Blk w g t cs) (h' : Blk w g' t' cs') (hne : t ≠ t') : g ≠ g' := by
  rintro rfl
  unfold Blk at h h'
  rw [h] at h'
  injection h' with h'
  injection h' with _ ht
  exact hne ht
theorem own_blk_ne {base : Nat} {e : TypeId} {size n : Nat} {v : Value} {xs : List Value} (h : w.ownsRow base e size v n xs) (hg : Blk w g t cs) (hne : e ≠ t) : v.ownBlock ≠ some g := by
  rcases h.2 with ⟨rfl, _⟩ | ⟨g', cap, cur, rfl, _, hh, _⟩
  · simp [Value.ownBlock]
  · intro he
    have : g' = g := by simpa [Value.ownBlock] using he
    subst this
    exact Blk.ne_ (t := e) hh hg hne rfl
end
theorem own_slice {w : World} {base e sz n : Nat} {v : Value} {xs : List Value} (h : w.ownsRow base e sz v n xs) : ∃ A c, v = .slice A n c := by
  rcases h.2 with ⟨rfl, rfl⟩ | ⟨g, cap, cur, rfl, _⟩
  · exact ⟨_, _, rfl⟩
  · exact ⟨_, _, rfl⟩
def Reads (w : World) (B size : Nat) (A : Option Addr) (n : Nat) (xs : List Value) : Prop :=
  xs.length = n * size ∧ (0 < n → ∃ b o, A = some ⟨b, o, none⟩ ∧ b < B ∧ ∀ j u, xs[j]? = some u → w.cell? ⟨b, o + j, none⟩ = some u)
section
variable {w w' : World} {B B' size n : Nat} {A : Option Addr} {xs : List Value}
theorem Reads.keep (h : Reads w B size A n xs) (hk : ∀ b o, b < B → w'.cell? ⟨b, o, none⟩ = w.cell? ⟨b, o, none⟩) : Reads w' B size A n xs :=
  ⟨h.1, fun hn => by
    obtain ⟨b, o, e, hb, hc⟩ := h.2 hn
    exact ⟨b, o, e, hb, fun j u hu => (hk _ _ hb).trans (hc j u hu)⟩⟩
theorem Reads.more (h : Reads w B size A n xs) (hB : B ≤ B') : Reads w B' size A n xs :=
  ⟨h.1, fun hn => by
    obtain ⟨b, o, e, hb, hc⟩ := h.2 hn
    exact ⟨b, o, e, by omega, hc⟩⟩
theorem Reads.below (h : Reads w B size A n xs) (hb : Below B w w') : Reads w' B size A n xs := h.keep fun b o hp => hb.cell (p := ⟨b, o, none⟩) hp
theorem Reads.of_own {base : Nat} {e : TypeId} {c : Nat} (h : w.ownsRow base e size (.slice A n c) n xs) : Reads w w.heap.size size A n xs := by
  refine ⟨h.1, fun hn => ?_⟩
  rcases h.2 with ⟨he, h0⟩ | ⟨g, cap, cur, hv, _, hg, _, _, _, ht⟩
  · omega
  · injection hv with hA
    subst hA
    refine ⟨g, 0, rfl, (Array.getElem?_eq_some_iff.1 hg).1, fun j u hu => ?_⟩
    rw [Nat.zero_add, cell_of_row w g j cur e (0, 0) hg]
    rw [← ht, List.getElem?_take] at hu
    split at hu
    · simpa using hu
    · cases hu
end
end Go.Proofs.Ytiejdbdbafmccaa
/- part Open -/
namespace Go.Proofs.Ytiejdbdbafmccaa
open Go.RowKit
open Go.ChangeShapes Go.WideShapes Go.Deep
section
variable {H : Type} {enc : TypeId × Value → H} {P : Program} {w : World} {base : Nat} {spare : Nat → Bool} {held : Bool}
theorem open_slice_fields {t e : TypeId} {fs : Array Field} {fuel : Nat} {cs : List Value} {x : DataW H × List MemPlace} (ht : P.underlying t = some (.slice e)) (he : P.underlying e = some (.struct fs))
    (hone : oneCellFields P fs = true) (hC : P.cellsOf e = fs.size) (h : DataW.trod enc P w base spare held fuel t cs = some x) :
    (cs = [.slice none 0 0] ∧ x = (.nil, [])) ∨
    ∃ (a : Addr) (len cap m : Nat), cs = [.slice (some a) len cap] ∧ len ≤ cap ∧ cap ≤ maxLen ∧ m = (if spare a.block then cap else len) ∧
      ∀ i, i < m → ∃ (ys : List (DataW H × List MemPlace)) (n : Nat), ys.length = fs.size ∧
        ∀ (j : Nat) (f : Field), fs[j]? = some f → ∃ (v : Value) (y : DataW H × List MemPlace), w.cell? (a.add (i * fs.size + j)) = some v ∧ ys[j]? = some y ∧ DataW.trod enc P w base spare held n f.type [v] = some y := by
  rcases open_slice ht h with h0 | ⟨a, len, cap, m, n, D, Pl, hcs, hb, hl, hm, hmm, hx, hi⟩
  · exact .inl h0
  · refine .inr ⟨a, len, cap, m, hcs, hl, hm, hmm, fun i him => ?_⟩
    obtain ⟨cs', hc, ht'⟩ := hi i him
    rw [hC] at hc
    obtain ⟨ys, n', hn', hy, hlen, hyl, hf⟩ := DataW.trod_struct he ht'
    obtain ⟨_, hcl, hat⟩ := World.cells?_some hc
    refine ⟨ys, n', hyl, fun j f hj => ?_⟩
    obtain ⟨ho, hk⟩ := hone_of hone j f hj
    have hjl : j < fs.size := (Array.getElem?_eq_some_iff.1 hj).1
    have hcell := hat j hjl
    have hv : cs'[j]? = some (cs'[j]'(by omega)) := List.getElem?_eq_getElem (by omega)
    have h1 := hf j f hj
    rw [ho, hk] at h1
    have hone' : (cs'.drop j).take 1 = [cs'[j]'(by omega)] := by
      rw [List.drop_eq_getElem_cons (by omega)]
      rfl
    rw [hone'] at h1
    have hys : ys[j]? = some (ys[j]'(by omega)) := List.getElem?_eq_getElem (by omega)
    refine ⟨_, _, ?_, hys, h1.trans hys⟩
    rw [← Go.Deep.add_add, hcell, hv]
theorem addr_plain {a : Addr} {v : Value} (h : w.cell? a = some v) : ∃ b o, a = ⟨b, o, none⟩ := by
  obtain ⟨b, o, sp⟩ := a
  cases sp with
  | none => exact ⟨b, o, rfl⟩
  | some s => simp [World.cell?] at h; split at h <;> simp at h
theorem exists_list {α : Type} {Q : Nat → α → Prop} : ∀ n, (∀ i, i < n → ∃ x, Q i x) → ∃ l : List α, l.length = n ∧ ∀ i (hi : i < l.length), Q i l[i]
  | 0, _ => ⟨[], rfl, fun i hi => by simp at hi⟩
  | n + 1, h => by
    obtain ⟨l, hl, hq⟩ := exists_list n fun i hi => h i (by omega)
    obtain ⟨x, hx⟩ := h n (by omega)
    refine ⟨l ++ [x], by simp [hl], fun i hi => ?_⟩
    by_cases hlt : i < l.length
    · rw [List.getElem_append_left hlt]; exact hq i hlt
    · have : i = l.length := by simp at hi; omega
      subst this
      simp
      rw [hl]; exact hx
def IsInts (k : IntKind) (w : World) (A : Option Addr) (ks : List Int) : Prop := ∀ i (hi : i < ks.length), ∃ b o, A = some ⟨b, o, none⟩ ∧ b < w.heap.size ∧ w.cell? ⟨b, o + i, none⟩ = some (.int k ks[i])
end
end Go.Proofs.Ytiejdbdbafmccaa
/- part OpenK -/
namespace Go.Proofs.Ytiejdbdbafmccaa
open Go.RowKit Go.Proofs.YtiejdbdbafmccaaW.PrintWords
open Go.ChangeShapes Go.WideShapes Go.Deep
section
variable {H : Type} {enc : TypeId × Value → H} {P : Program} {w : World} {base : Nat} {spare : Nat → Bool} {held : Bool}
theorem ints_field {t e : TypeId} {k : IntKind} {fuel : Nat} {v : Value} {x : DataW H × List MemPlace} (ht : P.underlying t = some (.slice e)) (he : P.underlying e = some (.int k)) (hc : P.cellsOf e = 1) (hsp : ∀ b, spare b = true)
    (h : DataW.trod enc P w base spare held fuel t [v] = some x) : ∃ A c, ∃ xs : List Int, v = .slice A xs.length c ∧ xs.length ≤ c ∧ (Kd.int k).C w A xs.length xs ∧ ∀ n ∈ xs, (Lit.int k n).wf = true := by
  rcases open_ints ht he hc h with ⟨hcs, _⟩ | ⟨a, l, c, zs, hcs, _, hl, hm, hz, _, hcell, hwz⟩
  · injection hcs with hcs
    obtain ⟨l, e, hr, _, hw, hc⟩ := ReadsInt.ofRowC (k := k) (w := w) (a := none) (len := 0) (cap := 0) (zs := []) (.inl ⟨rfl, rfl, rfl, rfl⟩)
    exact ⟨none, 0, l, by rw [hcs, ← e], hc, Kd.C_of_reads (d := (0 : Int)) (h1 := fun _ => rfl) hr, hw⟩
  · injection hcs with hcs
    obtain ⟨l, e, hr, _, hw, hc⟩ := ReadsInt.ofRowC (.inr ⟨a, rfl, hl, hm, by rw [hz, if_pos (hsp _)], hcell, hwz⟩)
    exact ⟨some a, c, l, by rw [hcs, e], hc, Kd.C_of_reads (d := (0 : Int)) (h1 := fun _ => rfl) hr, hw⟩
theorem C_of_each {α : Type} (d : Kd α) {A : Option Addr} {n : Nat} (hn : n ≤ 9223372036854775807) (hA : 0 < n → ∃ ad, A = some ad)
    (h : ∀ i, i < n → ∃ x c, c.length = d.sz ∧ d.K w x c ∧ ∀ ad, A = some ad → ∀ j u, c[j]? = some u → w.cell? (ad.add (i * d.sz + j)) = some u) : ∃ xs : List α, xs.length = n ∧ d.C w A xs.length xs := by
  obtain ⟨xs, hl, hq⟩ := exists_list (α := α) n fun i hi => by
    obtain ⟨x, hx⟩ := h i hi
    exact ⟨x, hx⟩
  refine ⟨xs, hl, rfl, by omega, fun hp => ?_⟩
  obtain ⟨ad, had⟩ := hA (by omega)
  refine ⟨ad, had, fun j p hj => ?_⟩
  obtain ⟨hjl, hje⟩ := List.getElem?_eq_some_iff.1 hj
  obtain ⟨c, h1, h2, h3⟩ := hq j hjl
  rw [hje] at h2
  exact ⟨c, h1, h2, h3 ad had⟩
end
end Go.Proofs.Ytiejdbdbafmccaa
/- part KdU -/
namespace Go.Proofs.Ytiejdbdbafmccaa
open Go.RowKit Go.Proofs.YtiejdbdbafmccaaW.PrintWords
theorem wr64 {x : Int} (h : -9223372036854775808 ≤ x) (h2 : x ≤ 9223372036854775807) : wrap64 x = x := by unfold wrap64; omega
theorem C_at {k : IntKind} {w : World} {A : Option Addr} {xs : List Int} (h : (Kd.int k).C w A xs.length xs) (hp : 0 < xs.length) :
    ∃ b o, A = some ⟨b, o, none⟩ ∧ b < w.heap.size ∧ ∀ i (hi : i < xs.length), w.cell? ⟨b, o + i, none⟩ = some (.int k xs[i]) := by
  obtain ⟨ad, rfl, hc⟩ := h.2.2 hp
  have hat : ∀ j (hj : j < xs.length), w.cell? (ad.add j) = some (.int k xs[j]) := fun j hj => by
    obtain ⟨c, hc1, hc2, hc3⟩ := hc j _ (List.getElem?_eq_getElem hj)
    have hce : c = [.int k xs[j]] := hc2
    subst hce
    have := hc3 0 _ rfl
    have hsz : (Kd.int k).sz = 1 := rfl
    rw [hsz] at this
    simpa using this
  obtain ⟨b, o, rfl⟩ := addr_plain (a := ad) (by have := hat 0 hp; rw [show ad.add 0 = ad from rfl] at this; exact this)
  refine ⟨b, o, rfl, World.block_lt_of_cell? w _ (hat 0 hp), fun i hi => ?_⟩
  have := hat i hi
  rwa [Addr.add_lit] at this
end Go.Proofs.Ytiejdbdbafmccaa
/- part ChMap -/
namespace Go.Proofs.Ytiejdbdbafmccaa
open Go.RowKit
theorem laidOut' : laidOutB Try.prog = true := by kernel_rfl
theorem part_law : WideMaps.KeyLaw Try.prog 59 := deep_law_laid laidOut' (m := 3) (by decide) (by decide) (by kernel_rfl) (by kernel_rfl)
def kv (l r : Nat) (m : Int) : Value := .agg #[.int .i64 l, .int .i64 r, .int .i64 m]
def av (a : Int × Int) : Value := .agg #[.int .i64 a.1, .int .i64 a.2]
def Pk (l r : Nat) (m : Int) : Prop := l ≤ 1000000 ∧ r ≤ 1000000 ∧ -1000000000 ≤ m ∧ m ≤ 1000000000
theorem kt_part : Try.prog.keyType 59 = true := by kernel_rfl
theorem kl_part (l r m : Int) (hl : (Lit.int .i64 l).wf = true) (hr : (Lit.int .i64 r).wf = true) (hm : (Lit.int .i64 m).wf = true) : Try.prog.keyLits (Try.prog.types.size + 1) 59 [.int .i64 l, .int .i64 r, .int .i64 m] = some [.int .i64 l, .int .i64 r, .int .i64 m] := by
  have e1 : ∀ n : Int, (Lit.int .i64 n).wf = true → ∀ d, Try.prog.keyLits (d + 1) 3 [.int .i64 n] = some [.int .i64 n] := fun n hn d => by
    unfold Program.keyLits
    simp [Try.underlying3, hn]
  unfold Program.keyLits
  have h0 : 0 < Try.prog.types.size := by decide
  obtain ⟨d, hd⟩ : ∃ d, Try.prog.types.size = d + 1 := ⟨Try.prog.types.size - 1, by omega⟩
  have hc : Try.prog.cellsOf 59 = 3 := by kernel_rfl
  have hi : Try.prog.cellsOf 3 = 1 := by kernel_rfl
  rw [hd]
  simp [Try.underlying59, hc, hi, e1, hl, hr, hm]
theorem key_part (l r : Nat) (m : Int) (h : Pk l r m) : ∃ x, keyOf Try.prog 59 (kv l r m) = some x := by
  obtain ⟨h1, h2, h3, h4⟩ := h
  have hc : Try.prog.cellsOf 59 = 3 := by kernel_rfl
  have HK := kl_part l r m (WalkArith.wf_i64 (by omega)) (WalkArith.wf_i64 (by omega)) (WalkArith.wf_i64 (by omega))
  unfold keyOf
  generalize Try.prog.types.size + 1 = S at HK ⊢
  simp [Try.underlying59, kt_part, kv, Value.formed, hc, Value.cells, HK]
theorem kv_inj {l r l' r' : Nat} {m m' : Int} (h : kv l r m = kv l' r' m') : l = l' ∧ r = r' ∧ m = m' := by
  unfold kv at h
  injection h with h
  have h := congrArg Array.toList h
  simp at h
  omega
end Go.Proofs.Ytiejdbdbafmccaa
/- part ChP -/
namespace Go.Proofs.Ytiejdbdbafmccaa
structure Rt (ws cs : List Int) : Prop where
  lo : 1 ≤ cs.length
  hi : cs.length ≤ 64
  len : ws.length = cs.length + 1
  wide : ∀ x ∈ ws, 1 ≤ x ∧ x ≤ 65536
  dear : ∀ x ∈ cs, 0 ≤ x ∧ x ≤ 1099511627776
def gP (ws : List Int) (n r : Nat) : Int := if r = n then 0 else ws.getD r 0
def oP (ws : List Int) (l : Nat) : Int := if l = 0 then 0 else ws.getD l 0
def needOne (ws cs : List Int) (l r : Nat) : Int := (if r = cs.length then ws.getD r 0 else gP ws cs.length r) + oP ws l
def costOne (cs : List Int) (r : Nat) : Int := if r = cs.length then cs.getD (r - 1) 0 else 0
def oneP (ws cs : List Int) (l r : Nat) (m : Int) : Int × Int := if m < needOne ws cs l r then (-1, 0) else (costOne cs r, 0)
def needStep (ws cs : List Int) (l r i : Nat) : Int := if l < i then ws.getD (i + 1) 0 + gP ws cs.length r + ws.getD i 0 else ws.getD (i + 1) 0 + gP ws cs.length r
def best' (best : Int × Int) (c k : Int) : Int × Int := if best.1 = -1 ∨ c < best.1 then (c, k) else best
def rnd (A : Nat → Nat → Int → Int × Int) (ws : List Int) (l r : Nat) (m : Int) (k : Nat) (wk : Int) (best : Int × Int) : Int × Int :=
  if (A k r (m - ws.getD k 0)).1 = -1 then best else
  if (A l k m).1 = -1 then best else
  best' best (wk + (A k r (m - ws.getD k 0)).1 + (A l k m).1) k
def loopP (A : Nat → Nat → Int → Int × Int) (ws cs : List Int) (l r : Nat) (m : Int) : Nat → Nat → Int → Int × Int → Int × Int
  | 0, _, _, best => best
  | f + 1, k, wk, best => if k < r ∧ needStep ws cs l r (k - 1) ≤ m then loopP A ws cs l r m f (k + 1) (wk + cs.getD (k - 1) 0) (rnd A ws l r m k (wk + cs.getD (k - 1) 0) best) else best
def ansF (ws cs : List Int) : Nat → Nat → Nat → Int → Int × Int
  | 0, _, _, _ => (-1, 0)
  | f + 1, l, r, m => if r = l + 1 then oneP ws cs l r m else loopP (ansF ws cs f) ws cs l r m (r - (l + 1)) (l + 1) 0 (-1, 0)
def ans (ws cs : List Int) (l r : Nat) (m : Int) : Int × Int := ansF ws cs (r - l) l r m
theorem loop_congr {A B : Nat → Nat → Int → Int × Int} {ws cs : List Int} {l r : Nat} {m : Int} (h : ∀ k m', l < k → k < r → A k r m' = B k r m' ∧ A l k m' = B l k m') : ∀ f k wk best, l < k → loopP A ws cs l r m f k wk best = loopP B ws cs l r m f k wk best
  | 0, _, _, _, _ => rfl
  | f + 1, k, wk, best, hk => by
    unfold loopP
    split
    · rename_i hc
      have e1 := (h k (m - ws.getD k 0) hk hc.1).1
      have e2 := (h k m hk hc.1).2
      have e3 : rnd A ws l r m k (wk + cs.getD (k - 1) 0) best = rnd B ws l r m k (wk + cs.getD (k - 1) 0) best := by unfold rnd; rw [e1, e2]
      rw [e3]
      exact loop_congr h f (k + 1) _ _ (by omega)
    · rfl
theorem ansF_eq (ws cs : List Int) : ∀ f f' l r m, r - l ≤ f → r - l ≤ f' → ansF ws cs f l r m = ansF ws cs f' l r m
  | 0, 0, _, _, _, _, _ => rfl
  | 0, f' + 1, l, r, m, h, _ => by
    have h0 : r - (l + 1) = 0 := by omega
    unfold ansF
    rw [if_neg (by omega), h0]
    rfl
  | f + 1, 0, l, r, m, _, h => by
    have h0 : r - (l + 1) = 0 := by omega
    unfold ansF
    rw [if_neg (by omega), h0]
    rfl
  | f + 1, f' + 1, l, r, m, h, h' => by
    unfold ansF
    split
    · rfl
    · exact loop_congr (fun k m' h1 h2 => ⟨ansF_eq ws cs f f' k r m' (by omega) (by omega), ansF_eq ws cs f f' l k m' (by omega) (by omega)⟩) _ _ _ _ (by omega)
theorem ans_one {ws cs : List Int} {l r : Nat} {m : Int} (h : r = l + 1) : ans ws cs l r m = oneP ws cs l r m := by
  unfold ans
  obtain rfl := h
  rw [show l + 1 - l = 0 + 1 from by omega]
  unfold ansF
  rw [if_pos rfl]
theorem ans_split {ws cs : List Int} {l r : Nat} {m : Int} (h : l + 1 < r) : ans ws cs l r m = loopP (ans ws cs) ws cs l r m (r - (l + 1)) (l + 1) 0 (-1, 0) := by
  show ansF ws cs (r - l) l r m = _
  obtain ⟨d, hd⟩ : ∃ d, r - l = d + 1 := ⟨r - l - 1, by omega⟩
  have e := loop_congr (A := ansF ws cs d) (B := ans ws cs) (ws := ws) (cs := cs) (l := l) (r := r) (m := m) (fun k m' h1 h2 => ⟨ansF_eq ws cs d (r - k) k r m' (by omega) (by omega), ansF_eq ws cs d (k - l) l k m' (by omega) (by omega)⟩) (r - (l + 1)) (l + 1) 0 (-1, 0) (by omega)
  rw [← e, hd]
  conv => lhs; unfold ansF
  rw [if_neg (by omega)]
def Ok (d : Nat) (a : Int × Int) : Prop := (a.1 = -1 ∨ 0 ≤ a.1 ∧ a.1 ≤ (d * d : Nat) * 1099511627776) ∧ 0 ≤ a.2 ∧ a.2 ≤ 64
theorem sq_le (a b : Nat) (ha : 1 ≤ a) : b + a * a + b * b ≤ (a + b) * (a + b) := by
  rw [Nat.add_mul, Nat.mul_add, Nat.mul_add]
  have : b * 1 ≤ b * a := Nat.mul_le_mul (Nat.le_refl _) ha
  omega
theorem cs_bd {ws cs : List Int} (h : Rt ws cs) (i : Nat) : 0 ≤ cs.getD i 0 ∧ cs.getD i 0 ≤ 1099511627776 := by
  by_cases hi : i < cs.length
  · simp [List.getElem?_eq_getElem hi]
    exact h.dear _ (List.getElem_mem hi)
  · have e : cs[i]? = none := List.getElem?_eq_none (by omega)
    simp [e]
theorem ws_bd {ws cs : List Int} (h : Rt ws cs) (i : Nat) : 0 ≤ ws.getD i 0 ∧ ws.getD i 0 ≤ 65536 := by
  by_cases hi : i < ws.length
  · simp [List.getElem?_eq_getElem hi]
    have := h.wide _ (List.getElem_mem hi)
    omega
  · have e : ws[i]? = none := List.getElem?_eq_none (by omega)
    simp [e]
theorem rnd_ok {A : Nat → Nat → Int → Int × Int} {ws cs : List Int} (_h : Rt ws cs) {l r : Nat} {m : Int} {k : Nat} {wk : Int} {best : Int × Int} (hr : r ≤ 64) (hk : l < k) (hk2 : k < r)
    (hA : Ok (r - k) (A k r (m - ws.getD k 0))) (hB : Ok (k - l) (A l k m)) (hw : 0 ≤ wk ∧ wk ≤ (k - l : Nat) * 1099511627776) (hb : Ok (r - l) best) : Ok (r - l) (rnd A ws l r m k wk best) := by
  unfold rnd
  split
  · exact hb
  split
  · exact hb
  rename_i h1 h2
  unfold best'
  split
  · have hq := sq_le (r - k) (k - l) (by omega)
    rw [show r - k + (k - l) = r - l from by omega] at hq
    have a1 := hA.1.resolve_left h1
    have a2 := hB.1.resolve_left h2
    refine ⟨Or.inr ?_, by simp, by simp; omega⟩
    generalize (r - k) * (r - k) = X at *
    generalize (k - l) * (k - l) = Y at *
    generalize (r - l) * (r - l) = Z at *
    simp only
    omega
  · exact hb
theorem loop_ok {A : Nat → Nat → Int → Int × Int} {ws cs : List Int} (h : Rt ws cs) {l r : Nat} {m : Int} (hr : r ≤ 64) (hA : ∀ k m', l < k → k < r → Ok (r - k) (A k r m') ∧ Ok (k - l) (A l k m')) : ∀ (f k : Nat) (wk : Int) (best : Int × Int), l < k → 0 ≤ wk → wk ≤ (k - 1 - l : Nat) * 1099511627776 → Ok (r - l) best → Ok (r - l) (loopP A ws cs l r m f k wk best) := by
  intro f
  induction f with
  | zero => exact fun _ _ _ _ _ _ hb => hb
  | succ f ih =>
    intro k wk best hk hw hw2 hb
    unfold loopP
    split
    · rename_i hc
      have hcb := cs_bd h (k - 1)
      have n1 : 0 ≤ wk + cs.getD (k - 1) 0 := by omega
      have n2 : wk + cs.getD (k - 1) 0 ≤ (k + 1 - 1 - l : Nat) * 1099511627776 := by omega
      have n3 : wk + cs.getD (k - 1) 0 ≤ (k - l : Nat) * 1099511627776 := by omega
      exact ih (k + 1) _ _ (by omega) n1 n2 (rnd_ok h hr hk hc.1 (hA k _ hk hc.1).1 (hA k m hk hc.1).2 ⟨n1, n3⟩ hb)
    · exact hb
theorem one_ok {ws cs : List Int} (h : Rt ws cs) {l r : Nat} (m : Int) (hr : l < r) : Ok (r - l) (oneP ws cs l r m) := by
  unfold oneP
  split
  · exact ⟨Or.inl rfl, by simp, by simp⟩
  · refine ⟨Or.inr ?_, by simp, by simp⟩
    have hc := cs_bd h (r - 1)
    have hq : 1 ≤ (r - l) * (r - l) := Nat.mul_le_mul (show 1 ≤ r - l by omega) (show 1 ≤ r - l by omega)
    unfold costOne
    generalize (r - l) * (r - l) = X at *
    split <;> simp only <;> omega
theorem ansF_ok {ws cs : List Int} (h : Rt ws cs) : ∀ f l r m, l < r → r ≤ 64 → Ok (r - l) (ansF ws cs f l r m)
  | 0, _, _, _, _, _ => ⟨Or.inl rfl, by simp [ansF], by simp [ansF]⟩
  | f + 1, l, r, m, hl, hr => by
    unfold ansF
    split
    · exact one_ok h m hl
    · exact loop_ok h hr (fun k m' h1 h2 => ⟨ansF_ok h f k r m' h2 hr, ansF_ok h f l k m' h1 (by omega)⟩) (r - (l + 1)) (l + 1) 0 (-1, 0) (by omega) (by omega) (by omega) ⟨Or.inl rfl, by simp, by simp⟩
theorem ans_ok {ws cs : List Int} (h : Rt ws cs) {l r : Nat} (m : Int) (hl : l < r) (hr : r ≤ 64) : Ok (r - l) (ans ws cs l r m) := ansF_ok h _ l r m hl hr
theorem ok_le {d : Nat} {a : Int × Int} (h : Ok d a) (hd : d ≤ 64) : -1 ≤ a.1 ∧ a.1 ≤ 4503599627370496 ∧ 0 ≤ a.2 ∧ a.2 ≤ 64 := by
  obtain ⟨h1, h2, h3⟩ := h
  have := Nat.mul_le_mul hd hd
  generalize d * d = X at *
  omega
end Go.Proofs.Ytiejdbdbafmccaa
/- part ChSv -/
namespace Go.Proofs.Ytiejdbdbafmccaa
open Go.RowKit
structure SV (w : World) (g mp b0 o0 c0 b1 o1 c1 : Nat) (ws cs : List Int) : Prop where
  blk : Blk w g 57 #[.slice (some ⟨b0, o0, none⟩) ws.length c0, .slice (some ⟨b1, o1, none⟩) cs.length c1, .int .i64 (cs.length : Int), .map (some mp)]
  ws_ : ∀ i, i < ws.length → w.cell? ⟨b0, o0 + i, none⟩ = some (.int .i64 (ws.getD i 0))
  cs_ : ∀ i, i < cs.length → w.cell? ⟨b1, o1 + i, none⟩ = some (.int .i64 (cs.getD i 0))
section
variable {w w' : World} {g mp b0 o0 c0 b1 o1 c1 : Nat} {ws cs : List Int}
theorem SV.keep (h : SV w g mp b0 o0 c0 b1 o1 c1 ws cs) (hk : ∀ b, b < w.heap.size → b ≠ mp → w'.heap[b]? = w.heap[b]?) (hm : ∃ es ck, w.heap[mp]? = some (.map es ck)) : SV w' g mp b0 o0 c0 b1 o1 c1 ws cs := by
  obtain ⟨es, ck, hm⟩ := hm
  have hc : ∀ (b o : Nat) (v : Value), w.cell? ⟨b, o, none⟩ = some v → w'.cell? ⟨b, o, none⟩ = some v := fun b o v hv => by
    have hlt := World.block_lt_of_cell? w _ hv
    have hne : b ≠ mp := fun e => by
      subst e
      simp [World.cell?, hm] at hv
    rw [← hv]
    have he := hk b hlt hne
    simp only [World.cell?, he]
  refine ⟨?_, fun i hi => hc _ _ _ (h.ws_ i hi), fun i hi => hc _ _ _ (h.cs_ i hi)⟩
  have hne : g ≠ mp := fun e => by
    have hb := h.blk
    unfold Blk at hb
    rw [e, hm] at hb
    cases hb
  exact (hk g h.blk.lt hne).trans h.blk
theorem SV.below (h : SV w g mp b0 o0 c0 b1 o1 c1 ws cs) {B : Nat} (hb : Below B w w') (hB : w.heap.size ≤ B) : SV w' g mp b0 o0 c0 b1 o1 c1 ws cs := by
  have hc : ∀ (b o : Nat) (v : Value), w.cell? ⟨b, o, none⟩ = some v → w'.cell? ⟨b, o, none⟩ = some v := fun b o v hv => by
    have hlt := World.block_lt_of_cell? w _ hv
    exact (hb.cell (p := ⟨b, o, none⟩) (Nat.lt_of_lt_of_le hlt hB)).trans hv
  exact ⟨h.blk.below hb (Nat.lt_of_lt_of_le h.blk.lt hB), fun i hi => hc _ _ _ (h.ws_ i hi), fun i hi => hc _ _ _ (h.cs_ i hi)⟩
end
theorem ri {a b : Int} (h : a = b) : Ending.returned (.int .i64 a) = .returned (.int .i64 b) := by rw [h]
set_option maxHeartbeats 1000000 in
theorem grad_any (w : World) (g mp b0 o0 c0 b1 o1 c1 : Nat) (ws cs : List Int) (h : SV w g mp b0 o0 c0 b1 o1 c1 ws cs) (hn : ws.length = cs.length + 1) (r : Nat) (hr : r ≤ cs.length) (hc : cs.length ≤ 64) :
    Calls Try.prog 50 #[.pointer (some ⟨g, 0, none⟩), .int .i64 r] w fun e w' => e = .returned (.int .i64 (gP ws cs.length r)) ∧ w' = w := by
  have f0 := h.blk.cell 0
  have f2 := h.blk.cell 2
  have hx := h.ws_ r (by omega)
  simp only [List.getElem?_toArray, List.getElem?_cons_zero, List.getElem?_cons_succ] at f0 f2
  have HG := Lib.hid (show gP ws cs.length r = if r = cs.length then 0 else ws.getD r 0 from rfl)
  generalize gP ws cs.length r = G at *
  clear h
  generalize ws.getD r 0 = x at *
  generalize cs.length = n at *
  by_cases hq : r = n
  · subst hq
    have HG := Lib.hid (HG.out.trans (if_pos rfl))
    go_enter Try.func50, Try.ntmps50
    go_wp2_with fail
    go_ret
    exact ⟨ri HG.out.symm, rfl⟩
  · have HG := Lib.hid (HG.out.trans (if_neg hq))
    have hq' : ¬ (r : Int) = (n : Int) := by omega
    have hl : r < ws.length := by omega
    go_enter Try.func50, Try.ntmps50
    go_wp2_with fail
    go_ret
    exact ⟨ri HG.out.symm, rfl⟩
set_option maxHeartbeats 1000000 in
theorem own_any (w : World) (g mp b0 o0 c0 b1 o1 c1 : Nat) (ws cs : List Int) (h : SV w g mp b0 o0 c0 b1 o1 c1 ws cs) (hn : ws.length = cs.length + 1) (r : Nat) (hr : r ≤ cs.length) (hc : cs.length ≤ 64) :
    Calls Try.prog 51 #[.pointer (some ⟨g, 0, none⟩), .int .i64 r] w fun e w' => e = .returned (.int .i64 (oP ws r)) ∧ w' = w := by
  have f0 := h.blk.cell 0
  have hx := h.ws_ r (by omega)
  simp only [List.getElem?_toArray, List.getElem?_cons_zero, List.getElem?_cons_succ] at f0
  have HG := Lib.hid (show oP ws r = if r = 0 then 0 else ws.getD r 0 from rfl)
  generalize oP ws r = G at *
  clear h
  generalize ws.getD r 0 = x at *
  generalize cs.length = n at *
  by_cases hq : r = 0
  · subst hq
    have HG := Lib.hid (HG.out.trans (if_pos rfl))
    go_enter Try.func51, Try.ntmps51
    go_wp2_with fail
    go_ret
    exact ⟨ri HG.out.symm, rfl⟩
  · have HG := Lib.hid (HG.out.trans (if_neg hq))
    have hq' : ¬ (r : Int) = 0 := by omega
    have hl : r < ws.length := by omega
    go_enter Try.func51, Try.ntmps51
    go_wp2_with fail
    go_ret
    exact ⟨ri HG.out.symm, rfl⟩
end Go.Proofs.Ytiejdbdbafmccaa
/- part ChOne -/
namespace Go.Proofs.Ytiejdbdbafmccaa
open Go.RowKit
theorem gP_bd {ws cs : List Int} (h : Rt ws cs) (r : Nat) : 0 ≤ gP ws cs.length r ∧ gP ws cs.length r ≤ 65536 := by
  have := ws_bd h r
  unfold gP
  split <;> omega
theorem oP_bd {ws cs : List Int} (h : Rt ws cs) (r : Nat) : 0 ≤ oP ws r ∧ oP ws r ≤ 65536 := by
  have := ws_bd h r
  unfold oP
  split <;> omega
theorem quiet2 {P : Program} {f : FuncId} {args : Array Value} {W : World} {k n : Nat} {v : Value} (h : ∀ j, Calls P f args (W.drewN j) fun e w' => e = .returned v ∧ w' = W.drewN j) :
    Calls P f args (W.drewN (k + n)) fun e w'' => e = .returned v ∧ ∃ m, w'' = W.drewN (k + m) := (h _).mono fun _ _ ⟨he, hm⟩ => ⟨he, n, hm⟩
theorem rav {a b : Int × Int} (h : a = b) : Ending.returned (av a) = .returned (av b) := by rw [h]
set_option maxHeartbeats 2000000 in
theorem one_any (w : World) (g mp b0 o0 c0 b1 o1 c1 : Nat) (ws cs : List Int) (h : SV w g mp b0 o0 c0 b1 o1 c1 ws cs) (ht : Rt ws cs) (l r : Nat) (m : Int) (hl : l < r) (hr : r ≤ cs.length) (hm : -1000000000 ≤ m) (hm2 : m ≤ 1000000000) :
    Calls Try.prog 44 #[.pointer (some ⟨g, 0, none⟩), kv l r m] w fun e w' => e = .returned (av (oneP ws cs l r m)) ∧ Below w.heap.size w w' := by
  obtain ⟨W, hW⟩ : ∃ W, W = (w.alloc (.cells #[.int .i64 (l : Int), .int .i64 (r : Int), .int .i64 m] 59)).alloc (.cells #[.int .i64 0, .int .i64 0] 47) := ⟨_, rfl⟩
  have hbW : Below w.heap.size w W := by rw [hW]; exact ((Below.refl _ _).alloc (Nat.le_refl _) _).alloc (by simp) _
  have hP : Blk W w.heap.size 59 #[.int .i64 (l : Int), .int .i64 (r : Int), .int .i64 m] := by rw [hW]; exact (Blk.new _ _ _).alloc _
  have hs := h.below hbW (Nat.le_refl _)
  have hA : Blk W (w.heap.size + 1) 47 #[.int .i64 0, .int .i64 0] := by
    rw [hW]
    have := Blk.new (w.alloc (.cells #[.int .i64 (l : Int), .int .i64 (r : Int), .int .i64 m] 59)) 47 #[.int .i64 0, .int .i64 0]
    simpa using this
  have a0 := hA.cell 0
  have a1 := hA.cell 1
  have z0 := hA.frozen 0
  have z1 := hA.frozen 1
  have hz : (w.alloc (.cells #[.int .i64 (l : Int), .int .i64 (r : Int), .int .i64 m] 59)).heap.size = w.heap.size + 1 := by simp
  have hlen := ht.len
  have hhi := ht.hi
  have HG := Lib.hid fun n => grad_any (W.drewN n) g mp b0 o0 c0 b1 o1 c1 ws cs ⟨hs.blk, hs.ws_, hs.cs_⟩ ht.len r hr ht.hi
  have HO := Lib.hid fun n => own_any (W.drewN n) g mp b0 o0 c0 b1 o1 c1 ws cs ⟨hs.blk, hs.ws_, hs.cs_⟩ ht.len l (by omega) ht.hi
  have f0 := hs.blk.cell 0
  have f1 := hs.blk.cell 1
  have f2 := hs.blk.cell 2
  have hx := hs.ws_ r (by omega)
  have hy := hs.cs_ (r - 1) (by omega)
  have p0 := hP.cell 0
  have p1 := hP.cell 1
  have p2 := hP.cell 2
  simp only [List.getElem?_toArray, List.getElem?_cons_zero, List.getElem?_cons_succ] at f0 f1 f2 p0 p1 p2 a0 a1
  have i1 : ((r : Int) - 1).toNat = r - 1 := by omega
  have i2 : r < ws.length := by omega
  have i5 : (r : Int) < (ws.length : Int) := by omega
  have i6 : (0 : Int) ≤ (r : Int) := by omega
  have i7 : (1 : Int) ≤ (r : Int) := by omega
  have i8 : 1 ≤ r := by omega
  have i9 : r - 1 < cs.length := by omega
  have i3 : (0 : Int) ≤ (r : Int) - 1 := by omega
  have i4 : (r : Int) - 1 < (cs.length : Int) := by omega
  have j1 := gP_bd ht r
  have j2 := oP_bd ht l
  have j3 := ws_bd ht r
  have j4 := cs_bd ht (r - 1)
  have HN := Lib.hid (show oneP ws cs l r m = if m < needOne ws cs l r then (-1, 0) else (costOne cs r, 0) from rfl)
  have HQ := Lib.hid (show needOne ws cs l r = (if r = cs.length then ws.getD r 0 else gP ws cs.length r) + oP ws l from rfl)
  have HC := Lib.hid (show costOne cs r = if r = cs.length then cs.getD (r - 1) 0 else 0 from rfl)
  have HF : Hid (∀ (n : Nat) (v u : Value), Below w.heap.size w (((W.drewN n).setCell ⟨w.heap.size + 1, 0, none⟩ v).setCell ⟨w.heap.size + 1, 1, none⟩ u)) := Lib.hid fun n v u =>
    ((⟨hbW.os, hbW.tape, hbW.output, hbW.size, hbW.block⟩ : Below w.heap.size w (W.drewN n)).setCell (p := ⟨w.heap.size + 1, 0, none⟩) (by show w.heap.size ≤ w.heap.size + 1; omega) v).setCell (p := ⟨w.heap.size + 1, 1, none⟩) (by show w.heap.size ≤ w.heap.size + 1; omega) u
  clear hs h hP hA hbW ht
  generalize oneP ws cs l r m = ON at *
  generalize needOne ws cs l r = ND at *
  generalize costOne cs r = CO at *
  generalize gP ws cs.length r = G at *
  generalize oP ws l = O at *
  generalize ws.getD r 0 = X at *
  generalize cs.getD (r - 1) 0 = Y at *
  generalize ws.length = wn at *
  generalize cs.length = n at *
  by_cases hq : r = n
  · subst hq
    have HQ := Lib.hid (HQ.out.trans (by rw [if_pos rfl]))
    have HC := Lib.hid (HC.out.trans (if_pos rfl))
    by_cases ht : m < X + O
    · have HN := Lib.hid (HN.out.trans (if_pos (by rw [HQ.out]; exact ht)))
      have HC0 := HC
      clear HQ HC hlen hr
      go_enter Try.func44, Try.ntmps44
      simp only [kv]
      go_wp2_with fail
      rw [← hW]
      clear hW
      go_quiet (first | (go_at_call 50; exact Calls.quiet_of_same (HG.out _)) | (go_at_call 51; exact Calls.quiet_of_same (HO.out _)))
      go_wp2_with fail
      go_quiet (fail)
      go_wp2_with fail
      go_quiet ((go_at_call 51; exact quiet2 HO.out))
      go_wp2_with fail
      refine bodyPost_ret (v := av (-1, 0)) (by simp [results, Try.f44, go_sem, av, a0, a1, z0, z1]) rfl ⟨rav HN.out.symm, ?_⟩
      exact HF.out _ _ _
    · have HN := Lib.hid (HN.out.trans (if_neg (by rw [HQ.out]; exact ht)))
      have HC0 := HC
      clear HQ HC hlen hr
      go_enter Try.func44, Try.ntmps44
      simp only [kv]
      go_wp2_with fail
      rw [← hW]
      clear hW
      go_quiet (first | (go_at_call 50; exact Calls.quiet_of_same (HG.out _)) | (go_at_call 51; exact Calls.quiet_of_same (HO.out _)))
      go_wp2_with fail
      go_quiet (fail)
      go_wp2_with fail
      go_quiet ((go_at_call 51; exact quiet2 HO.out))
      go_wp2_with fail
      refine bodyPost_ret (v := av (Y, 0)) (by simp [results, Try.f44, go_sem, av, a0, a1, z0, z1]) rfl ⟨rav (HN.out.trans (by rw [HC0.out])).symm, ?_⟩
      exact HF.out _ _ _
  · have hq' : ¬ (r : Int) = (n : Int) := by omega
    have HQ := Lib.hid (HQ.out.trans (by rw [if_neg hq]))
    have HC := Lib.hid (HC.out.trans (if_neg hq))
    by_cases ht : m < G + O
    · have HN := Lib.hid (HN.out.trans (if_pos (by rw [HQ.out]; exact ht)))
      have HC0 := HC
      clear HQ HC hlen hr
      go_enter Try.func44, Try.ntmps44
      simp only [kv]
      go_wp2_with fail
      rw [← hW]
      clear hW
      go_quiet (first | (go_at_call 50; exact Calls.quiet_of_same (HG.out _)) | (go_at_call 51; exact Calls.quiet_of_same (HO.out _)))
      go_wp2_with fail
      go_quiet (fail)
      go_wp2_with fail
      refine bodyPost_ret (v := av (-1, 0)) (by simp [results, Try.f44, go_sem, av, a0, a1, z0, z1]) rfl ⟨rav HN.out.symm, ?_⟩
      exact HF.out _ _ _
    · have HN := Lib.hid (HN.out.trans (if_neg (by rw [HQ.out]; exact ht)))
      have HC0 := HC
      clear HQ HC hlen hr
      go_enter Try.func44, Try.ntmps44
      simp only [kv]
      go_wp2_with fail
      rw [← hW]
      clear hW
      go_quiet (first | (go_at_call 50; exact Calls.quiet_of_same (HG.out _)) | (go_at_call 51; exact Calls.quiet_of_same (HO.out _)))
      go_wp2_with fail
      go_quiet (fail)
      go_wp2_with fail
      refine bodyPost_ret (v := av (0, 0)) (by simp [results, Try.f44, go_sem, av, a0, a1, z0, z1]) rfl ⟨rav (HN.out.trans (by rw [HC0.out])).symm, ?_⟩
      exact HF.out _ _ _
end Go.Proofs.Ytiejdbdbafmccaa
/- part ChStep -/
namespace Go.Proofs.Ytiejdbdbafmccaa
open Go.RowKit
theorem rb' {a b : Bool} (h : a = b) : Ending.returned (.bool a) = .returned (.bool b) := by rw [h]
set_option maxHeartbeats 2000000 in
theorem step_any (w : World) (g mp b0 o0 c0 b1 o1 c1 : Nat) (ws cs : List Int) (h : SV w g mp b0 o0 c0 b1 o1 c1 ws cs) (ht : Rt ws cs) (l r i : Nat) (m : Int) (hl : l ≤ i) (hi : i + 1 < r) (hr : r ≤ cs.length) (hm : -1000000000 ≤ m) (hm2 : m ≤ 1000000000) :
    Calls Try.prog 52 #[.pointer (some ⟨g, 0, none⟩), kv l r m, .int .i64 (i : Int)] w fun e w' => e = .returned (.bool (decide (needStep ws cs l r i ≤ m))) ∧ Below w.heap.size w w' := by
  obtain ⟨W, hW⟩ : ∃ W, W = w.alloc (.cells #[.int .i64 (l : Int), .int .i64 (r : Int), .int .i64 m] 59) := ⟨_, rfl⟩
  have hbW : Below w.heap.size w W := by rw [hW]; exact (Below.refl _ _).alloc (Nat.le_refl _) _
  have hP : Blk W w.heap.size 59 #[.int .i64 (l : Int), .int .i64 (r : Int), .int .i64 m] := by rw [hW]; exact Blk.new _ _ _
  have hs := h.below hbW (Nat.le_refl _)
  have hlen := ht.len
  have hhi := ht.hi
  have HG := Lib.hid fun n => grad_any (W.drewN n) g mp b0 o0 c0 b1 o1 c1 ws cs ⟨hs.blk, hs.ws_, hs.cs_⟩ ht.len r hr ht.hi
  have f0 := hs.blk.cell 0
  have hx := hs.ws_ (i + 1) (by omega)
  have hy := hs.ws_ i (by omega)
  have p0 := hP.cell 0
  have p1 := hP.cell 1
  have p2 := hP.cell 2
  simp only [List.getElem?_toArray, List.getElem?_cons_zero, List.getElem?_cons_succ] at f0 p0 p1 p2
  have i1 : ((i : Int) + 1).toNat = i + 1 := by omega
  have i2 : i + 1 < ws.length := by omega
  have i3 : (0 : Int) ≤ (i : Int) + 1 := by omega
  have i4 : (i : Int) + 1 < (ws.length : Int) := by omega
  have i5 : (i : Int) < (ws.length : Int) := by omega
  have i6 : (0 : Int) ≤ (i : Int) := by omega
  have i7 : (i : Int) ≤ 64 := by omega
  have i8 : i < ws.length := by omega
  have j1 := gP_bd ht r
  have j3 := ws_bd ht (i + 1)
  have j4 := ws_bd ht i
  have HN := Lib.hid (show needStep ws cs l r i = if l < i then ws.getD (i + 1) 0 + gP ws cs.length r + ws.getD i 0 else ws.getD (i + 1) 0 + gP ws cs.length r from rfl)
  have HF : Hid (∀ (n : Nat), Below w.heap.size w (W.drewN n)) := Lib.hid fun n => ⟨hbW.os, hbW.tape, hbW.output, hbW.size, hbW.block⟩
  clear hs h hP hbW ht
  generalize needStep ws cs l r i = ND at *
  generalize gP ws cs.length r = G at *
  generalize ws.getD (i + 1) 0 = X at *
  generalize ws.getD i 0 = Y at *
  generalize ws.length = wn at *
  generalize cs.length = n at *
  by_cases hq : l < i
  · have hq' : (l : Int) < (i : Int) := by omega
    have HN := Lib.hid (HN.out.trans (if_pos hq))
    clear hlen hr
    go_enter Try.func52, Try.ntmps52
    simp only [kv]
    go_wp2_with fail
    rw [← hW]
    clear hW
    go_quiet ((go_at_call 50; exact Calls.quiet_of_same (HG.out _)))
    go_wp2_with fail
    go_ret
    exact ⟨rb' (by rw [HN.out]), HF.out _⟩
  · have hq' : ¬ (l : Int) < (i : Int) := by omega
    have HN := Lib.hid (HN.out.trans (if_neg hq))
    clear hlen hr
    go_enter Try.func52, Try.ntmps52
    simp only [kv]
    go_wp2_with fail
    rw [← hW]
    clear hW
    go_quiet ((go_at_call 50; exact Calls.quiet_of_same (HG.out _)))
    go_wp2_with fail
    go_ret
    exact ⟨rb' (by rw [HN.out]), HF.out _⟩
end Go.Proofs.Ytiejdbdbafmccaa
/- part Sl -/
namespace Go.Proofs.Ytiejdbdbafmccaa
open Go.RowKit
theorem info_parts4 {P : Program} {T : TypeId} {z : Value} {a b c : Nat} (h : (P.info? T).map (fun i => (i.zero, i.size, i.bytes, z.cells.size)) = some (some z, a, b, c)) :
    ∃ i, P.info? T = some i ∧ i.zero = some z ∧ i.size = a ∧ i.bytes = b ∧ z.cells.size = c := by
  cases hq : P.info? T with
  | none => rw [hq] at h; cases h
  | some i =>
    rw [hq] at h
    simp only [Option.map_some, Option.some.injEq, Prod.mk.injEq] at h
    exact ⟨i, rfl, h.1, h.2.1, h.2.2.1, h.2.2.2⟩
section
variable {P : Program} (w : World)
theorem min_eq' (a b : Nat) : Nat.min a b = min a b := rfl
theorem run_copy_blk (t ty e : TypeId) (i : TypeInfo) (sz : Nat) (ht : P.underlying t = some (.slice e)) (hi : P.info? e = some i) (hsz : i.size = sz)
    (g o dLen dCap : Nat) (sb so sLen sCap : Nat) (cur : List Value) (t' : TypeId) (cs : List Value) (k : Nat)
    (hg : w.heap[g]? = some (.cells cur.toArray t' (0, 0))) (hk : k = min sLen dLen) (hl : cs.length = k * sz)
    (hsrc : ∀ j u, cs[j]? = some u → w.cell? ⟨sb, so + j, none⟩ = some u) (hfit : o + cs.length ≤ cur.length) (h1 : ∀ u ∈ cs, u.oneCell' = true) :
    (Builtin.copy_ #[t, t] ty #[.slice (some ⟨g, o, none⟩) dLen dCap, .slice (some ⟨sb, so, none⟩) sLen sCap]).run P w = .ok (goInt k) (w.setRow g (splice cur o cs).toArray) := by
  have hf := run_firstCells_some (P := P) w i.size k ⟨sb, so, none⟩ sLen sCap cs (by rw [hl, hsz]) (fun j u hu => by rw [Addr.add_lit]; exact hsrc j u hu)
  have hst := run_storeCells_at P g o t' cs 0 cur.toArray w hg (by simpa using hfit) h1
  subst hk
  simp [Builtin.copy_, run_underlying ht, Builtin.lenOf, sizeOf, typeInfo, hi, min_eq', hf, hst, splice]
theorem run_copy_zero (t ty e : TypeId) (i : TypeInfo) (ht : P.underlying t = some (.slice e)) (hi : P.info? e = some i)
    (d s : Option Addr) (dLen dCap sLen sCap : Nat) (hk : min sLen dLen = 0) :
    (Builtin.copy_ #[t, t] ty #[.slice d dLen dCap, .slice s sLen sCap]).run P w = .ok (goInt 0) w := by
  have hk' : Nat.min sLen dLen = 0 := hk
  cases s with
  | none => cases d <;> simp [Builtin.copy_, run_underlying ht, Builtin.lenOf, Builtin.firstCells, sizeOf, typeInfo, hi, hk', storeCells]
  | some s =>
    have hf := run_firstCells_some (P := P) w i.size 0 s sLen sCap [] (by simp) (fun j u hu => by simp at hu)
    cases d <;> simp [Builtin.copy_, run_underlying ht, Builtin.lenOf, sizeOf, typeInfo, hi, hk', hf, storeCells]
theorem zero_of_info {e : TypeId} {i : TypeInfo} {z : Value} (hi : P.info? e = some i) (hz : i.zero = some z) : (zeroValue e).run P w = .ok z w := by
  simp [zeroValue, typeInfo, hi, hz]
theorem mem_zeroCells {z : Array Value} {n : Nat} {u : Value} (h : u ∈ Builtin.zeroCells z n) : ∃ k, u = z[k]! ∧ (0 < z.size → k < z.size) := by
  simp only [Builtin.zeroCells, Array.mem_map, Array.mem_range] at h
  obtain ⟨j, hj, rfl⟩ := h
  exact ⟨j % z.size, rfl, fun h => Nat.mod_lt _ h⟩
theorem one_zeroCells {z : Array Value} (hz : ∀ u ∈ z, u.oneCell' = true) (n : Nat) : ∀ u ∈ Builtin.zeroCells z n, u.oneCell' = true := by
  intro u hu
  obtain ⟨k, rfl, hk⟩ := mem_zeroCells hu
  rcases Nat.eq_zero_or_pos z.size with h0 | h0
  · have : (Builtin.zeroCells z n).size = 0 := by simp [Builtin.zeroCells, h0]
    have h2 := Array.eq_empty_of_size_eq_zero this
    rw [h2] at hu
    simp at hu
  · have hlt := hk h0
    rw [getElem!_pos z k hlt]
    exact hz _ (Array.getElem_mem hlt)
theorem run_clear_blk (t ty e : TypeId) (i : TypeInfo) (z : Value) (ht : P.underlying t = some (.slice e)) (hi : P.info? e = some i) (hz : i.zero = some z)
    (g o n c : Nat) (cur : List Value) (t' : TypeId)
    (hg : w.heap[g]? = some (.cells cur.toArray t' (0, 0))) (hfit : o + n * z.cells.size ≤ cur.length) (h1 : ∀ u ∈ z.cells, u.oneCell' = true) :
    (Builtin.clear_ #[t] ty #[.slice (some ⟨g, o, none⟩) n c]).run P w = .ok (.tuple #[]) (w.setRow g (splice cur o (Builtin.zeroCells z.cells n).toList).toArray) := by
  have hlen : (Builtin.zeroCells z.cells n).toList.length = n * z.cells.size := by simp [Builtin.zeroCells]
  have hst := run_storeCells_at P g o t' (Builtin.zeroCells z.cells n).toList 0 cur.toArray w hg (by rw [hlen]; simpa using hfit) (fun u hu => one_zeroCells (fun v hv => h1 v (by simpa using hv)) n u (by simpa using hu))
  rcases Nat.eq_zero_or_pos n with rfl | hn
  · have e0 : (Builtin.zeroCells z.cells 0).toList = [] := by simp [Builtin.zeroCells]
    rw [e0]
    have : w.setRow g (splice cur o []).toArray = w := by
      have := setRow_self w g cur.toArray t' (0, 0) hg
      simpa [splice] using this
    rw [this]
    simp [Builtin.clear_, run_underlying ht]
  · obtain ⟨m, rfl⟩ : ∃ m, n = m + 1 := ⟨n - 1, by omega⟩
    simp [Builtin.clear_, run_underlying ht, zero_of_info _ hi hz, hst, splice]
theorem run_clear_none (t ty e : TypeId) (ht : P.underlying t = some (.slice e)) (s : Option Addr) (c : Nat) :
    (Builtin.clear_ #[t] ty #[.slice s 0 c]).run P w = .ok (.tuple #[]) w := by
  cases s <;> simp [Builtin.clear_, run_underlying ht]
end
section
variable {P : Program}
theorem wp_copy_r (w : World) {o : Oper} {a : Act} {K : Act → World → Prop} {Q : Exit → Act → World → Prop} (d s : Operand) (t t' : TypeId)
    (ho : o.op = .call { callee := .builtin .copy, args := #[d, s], argTypes := #[t, t'] }) {v u : Value} (hd : a.eval d = v) (hs : a.eval s = u) {v' : Value} {w' : World}
    (hr : (Builtin.copy_ #[t, t'] o.type #[v, u]).run P w = .ok v' w') (h : K (a.put o.dst v') w') : o.wp P a w K Q := by
  unfold Oper.wp execOp
  simp only [ho, resolve, invoke, builtin, Sem.run_bind, Sem.run_pure, Result.andThen_ok, List.map_toArray, List.map_cons, List.map_nil, hd, hs, hr]
  exact h
theorem wpList_copy_r (w : World) {ops : Array Oper} {rest : List Oper} {o : Oper} {a : Act} {Q : Exit → Act → World → Prop} (hgd : o.guard = none) (d s : Operand) (t t' : TypeId)
    (ho : o.op = .call { callee := .builtin .copy, args := #[d, s], argTypes := #[t, t'] }) {v u : Value} (hd : a.eval d = v) (hs : a.eval s = u) {v' : Value} {w' : World}
    (hr : (Builtin.copy_ #[t, t'] o.type #[v, u]).run P w = .ok v' w') (h : wpList P ops Q rest (a.put o.dst v') w') : wpList P ops Q (o :: rest) a w :=
  wpList_plain hgd fun _ hK => wp_copy_r w d s t t' ho hd hs hr (hK _ _ h)
theorem step_copy_r {ops : Array Oper} {o : Oper} {a : Act} {w : World} {K : Act → World → Prop} {Q : Exit → Act → World → Prop} {E : Prop}
    (hg : o.guard = none) (d x : Operand) (dT sT : TypeId) (hop : o.op = Op.call { callee := Callee.builtin Builtin.copy, args := #[d, x], argTypes := #[dT, sT] })
    {v u : Value} (hd : a.eval d = v) (hx : a.eval x = u) {v' : Value} {w' : World} (hr : (Builtin.copy_ #[dT, sT] o.type #[v, u]).run P w = .ok v' w') (hK : K (a.put o.dst v') w') :
    if Region.wanted o (yielded ops a.tmps) = true then Oper.wp P o a w K Q else E := by
  have hw : Region.wanted o (yielded ops a.tmps) = true := by simp [Region.wanted, hg]
  rw [if_pos hw]
  exact wp_copy_r w d x dT sT hop hd hx hr hK
theorem wp_append_r (w : World) {o : Oper} {a : Act} {K : Act → World → Prop} {Q : Exit → Act → World → Prop} (d s : Operand) (t t' : TypeId)
    (ho : o.op = .call { callee := .builtin .append, args := #[d, s], argTypes := #[t, t'] }) {v u : Value} (hd : a.eval d = v) (hs : a.eval s = u) {v' : Value} {w' : World}
    (hr : (Builtin.append_ #[t, t'] o.type #[v, u]).run P w = .ok v' w') (h : K (a.put o.dst v') w') : o.wp P a w K Q := by
  unfold Oper.wp execOp
  simp only [ho, resolve, invoke, builtin, Sem.run_bind, Sem.run_pure, Result.andThen_ok, List.map_toArray, List.map_cons, List.map_nil, hd, hs, hr]
  exact h
theorem wpList_append_r (w : World) {ops : Array Oper} {rest : List Oper} {o : Oper} {a : Act} {Q : Exit → Act → World → Prop} (hgd : o.guard = none) (d s : Operand) (t t' : TypeId)
    (ho : o.op = .call { callee := .builtin .append, args := #[d, s], argTypes := #[t, t'] }) {v u : Value} (hd : a.eval d = v) (hs : a.eval s = u) {v' : Value} {w' : World}
    (hr : (Builtin.append_ #[t, t'] o.type #[v, u]).run P w = .ok v' w') (h : wpList P ops Q rest (a.put o.dst v') w') : wpList P ops Q (o :: rest) a w :=
  wpList_plain hgd fun _ hK => wp_append_r w d s t t' ho hd hs hr (hK _ _ h)
theorem step_append_r {ops : Array Oper} {o : Oper} {a : Act} {w : World} {K : Act → World → Prop} {Q : Exit → Act → World → Prop} {E : Prop}
    (hg : o.guard = none) (d x : Operand) (dT sT : TypeId) (hop : o.op = Op.call { callee := Callee.builtin Builtin.append, args := #[d, x], argTypes := #[dT, sT] })
    {v u : Value} (hd : a.eval d = v) (hx : a.eval x = u) {v' : Value} {w' : World} (hr : (Builtin.append_ #[dT, sT] o.type #[v, u]).run P w = .ok v' w') (hK : K (a.put o.dst v') w') :
    if Region.wanted o (yielded ops a.tmps) = true then Oper.wp P o a w K Q else E := by
  have hw : Region.wanted o (yielded ops a.tmps) = true := by simp [Region.wanted, hg]
  rw [if_pos hw]
  exact wp_append_r w d x dT sT hop hd hx hr hK
theorem wp_clear_r (w : World) {o : Oper} {a : Act} {K : Act → World → Prop} {Q : Exit → Act → World → Prop} (s : Operand) (t : TypeId)
    (ho : o.op = .call { callee := .builtin .clear, args := #[s], argTypes := #[t] }) {u : Value} (hs : a.eval s = u) {v' : Value} {w' : World}
    (hr : (Builtin.clear_ #[t] o.type #[u]).run P w = .ok v' w') (h : K (a.put o.dst v') w') : o.wp P a w K Q := by
  unfold Oper.wp execOp
  simp only [ho, resolve, invoke, builtin, Sem.run_bind, Sem.run_pure, Result.andThen_ok, List.map_toArray, List.map_cons, List.map_nil, hs, hr]
  exact h
theorem wpList_clear_r (w : World) {ops : Array Oper} {rest : List Oper} {o : Oper} {a : Act} {Q : Exit → Act → World → Prop} (hgd : o.guard = none) (s : Operand) (t : TypeId)
    (ho : o.op = .call { callee := .builtin .clear, args := #[s], argTypes := #[t] }) {u : Value} (hs : a.eval s = u) {v' : Value} {w' : World}
    (hr : (Builtin.clear_ #[t] o.type #[u]).run P w = .ok v' w') (h : wpList P ops Q rest (a.put o.dst v') w') : wpList P ops Q (o :: rest) a w :=
  wpList_plain hgd fun _ hK => wp_clear_r w s t ho hs hr (hK _ _ h)
end
section
variable {P : Program} (w : World)
theorem run_append_of_nil (base : Nat) (t ty e : TypeId) (i : TypeInfo) (size : Nat) (ht : P.underlying t = some (.slice e)) (hi : P.info? e = some i)
    (v : Value) (n : Nat) (xs : List Value) (hown : w.ownsRow base e size v n xs) (c : Nat) : (Builtin.append_ #[t, t] ty #[v, .slice none 0 c]).run P w = .ok v w := by
  rcases hown.2 with ⟨rfl, rfl⟩ | ⟨g, cap, cur, rfl, _, _, hnc, _⟩
  · simp [Builtin.append_, run_underlying ht, sizeOf, typeInfo, hi, Builtin.lenOf, Builtin.firstCells]
  · simp [Builtin.append_, run_underlying ht, sizeOf, typeInfo, hi, Builtin.lenOf, Builtin.firstCells, hnc, storeCells]
theorem run_append_rd (base : Nat) (t ty e : TypeId) (i : TypeInfo) (z : Value) (size bytes : Nat) (ht : P.underlying t = some (.slice e)) (hi : P.info? e = some i) (hz : i.zero = some z)
    (hsize : i.size = size) (hby : i.bytes = bytes) (hzs : z.cells.size = size) (hsz : 0 < size)
    (v : Value) (n : Nat) (xs : List Value) (hown : w.ownsRow base e size v n xs)
    (B : Nat) (A : Option Addr) (m c : Nat) (news : List Value) (hr : Reads w B size A m news) (h1 : ∀ u ∈ news, u.oneCell' = true)
    (h63 : n + m ≤ maxLen) (hbytes : (n + m) * bytes ≤ 140737488355328) (hbase : base ≤ w.heap.size) :
    ∃ v' w', (Builtin.append_ #[t, t] ty #[v, .slice A m c]).run P w = .ok v' w' ∧ w'.ownsRow base e size v' (n + m) (xs ++ news) ∧ w.grownBy w' v.ownBlock ∧
      (v'.ownBlock = v.ownBlock ∨ v'.ownBlock = some w.heap.size) := by
  rcases A with _ | ad
  · have hm : m = 0 := by
      rcases Nat.eq_zero_or_pos m with h0 | h0
      · exact h0
      · obtain ⟨b, o, h, _⟩ := hr.2 h0
        cases h
    subst hm
    have hn : news = [] := List.eq_nil_of_length_eq_zero (by simpa using hr.1)
    subst hn
    exact ⟨v, w, run_append_of_nil w base t ty e i size ht hi v n xs hown c, by simpa using hown, World.grownBy.refl w _, .inl rfl⟩
  · have hcells : ∀ j u, news[j]? = some u → w.cell? (ad.add j) = some u := by
      intro j u hu
      rcases Nat.eq_zero_or_pos m with h0 | h0
      · subst h0
        have hn : news = [] := List.eq_nil_of_length_eq_zero (by simpa using hr.1)
        subst hn
        simp at hu
      · obtain ⟨b, o, h, _, hc⟩ := hr.2 h0
        injection h with h
        subst h
        rw [Addr.add_lit]
        exact hc j u hu
    obtain ⟨v', w', hrun, h2, h3, _, h5⟩ := run_append_own_at (P := P) w base t ty e i z size bytes ht hi hz hsize hby hzs hsz v n xs hown ad m c news hr.1 hcells h1 h63 hbytes hbase
    exact ⟨v', w', hrun, h2, h3, h5⟩
theorem wpList_append_rd {ops : Array Oper} {rest : List Oper} {o : Oper} {a : Act} {Q : Exit → Act → World → Prop} (hgd : o.guard = none) (s x : Operand) (t : TypeId)
    (ho : o.op = .call { callee := .builtin .append, args := #[s, x], argTypes := #[t, t] })
    (e : TypeId) (i : TypeInfo) (z : Value) (size bytes : Nat) (ht : P.underlying t = some (.slice e)) (hi : P.info? e = some i) (hz : i.zero = some z)
    (hsize : i.size = size) (hby : i.bytes = bytes) (hzs : z.cells.size = size) (hsz : 0 < size)
    (v : Value) (n : Nat) (xs : List Value) (hs : a.eval s = v) (hown : w.ownsRow 0 e size v n xs)
    (B : Nat) (A : Option Addr) (m c : Nat) (news : List Value) (hx : a.eval x = .slice A m c) (hr : Reads w B size A m news) (h1 : ∀ u ∈ news, u.oneCell' = true)
    (h63 : n + m ≤ maxLen) (hbytes : (n + m) * bytes ≤ 140737488355328)
    (h : ∀ v' w', w'.ownsRow 0 e size v' (n + m) (xs ++ news) → w.grownBy w' v.ownBlock → (v'.ownBlock = v.ownBlock ∨ v'.ownBlock = some w.heap.size) → wpList P ops Q rest (a.put o.dst v') w') : wpList P ops Q (o :: rest) a w := by
  obtain ⟨v', w', hrun, h2, h3, h4⟩ := run_append_rd (P := P) w 0 t o.type e i z size bytes ht hi hz hsize hby hzs hsz v n xs hown B A m c news hr h1 h63 hbytes (Nat.zero_le _)
  exact wpList_append_r w hgd s x t t ho hs hx hrun (h v' w' h2 h3 h4)
theorem step_append_rd {ops : Array Oper} {o : Oper} {a : Act} {K : Act → World → Prop} {Q : Exit → Act → World → Prop} {E : Prop} (hgd : o.guard = none) (s x : Operand) (t : TypeId)
    (ho : o.op = .call { callee := .builtin .append, args := #[s, x], argTypes := #[t, t] })
    (e : TypeId) (i : TypeInfo) (z : Value) (size bytes : Nat) (ht : P.underlying t = some (.slice e)) (hi : P.info? e = some i) (hz : i.zero = some z)
    (hsize : i.size = size) (hby : i.bytes = bytes) (hzs : z.cells.size = size) (hsz : 0 < size)
    (v : Value) (n : Nat) (xs : List Value) (hs : a.eval s = v) (hown : w.ownsRow 0 e size v n xs)
    (B : Nat) (A : Option Addr) (m c : Nat) (news : List Value) (hx : a.eval x = .slice A m c) (hr : Reads w B size A m news) (h1 : ∀ u ∈ news, u.oneCell' = true)
    (h63 : n + m ≤ maxLen) (hbytes : (n + m) * bytes ≤ 140737488355328)
    (h : ∀ v' w', w'.ownsRow 0 e size v' (n + m) (xs ++ news) → w.grownBy w' v.ownBlock → (v'.ownBlock = v.ownBlock ∨ v'.ownBlock = some w.heap.size) → K (a.put o.dst v') w') :
    if Region.wanted o (yielded ops a.tmps) = true then Oper.wp P o a w K Q else E := by
  obtain ⟨v', w', hrun, h2, h3, h4⟩ := run_append_rd (P := P) w 0 t o.type e i z size bytes ht hi hz hsize hby hzs hsz v n xs hown B A m c news hr h1 h63 hbytes (Nat.zero_le _)
  exact step_append_r hgd s x t t ho hs hx hrun (h v' w' h2 h3 h4)
theorem Reads.of_blk {w : World} {g : Nat} {t : TypeId} {cs : List Value} (h : Blk w g t cs.toArray) {size n : Nat} (hl : cs.length = n * size) : Reads w w.heap.size size (some ⟨g, 0, none⟩) n cs :=
  ⟨hl, fun _ => ⟨g, 0, rfl, h.lt, fun j u hu => by rw [Nat.zero_add, h.cell]; simpa using hu⟩⟩
end
section
variable {P : Program} (w : World)
theorem setRow_grown (g : Nat) (cs : Array Value) : w.grownBy (w.setRow g cs) (some g) :=
  ⟨rfl, rfl, rfl, by simp, fun k _ hk => setRow_other w g k cs (fun e => hk (by rw [e]))⟩
theorem step_copy_blk {ops : Array Oper} {o : Oper} {a : Act} {K : Act → World → Prop} {Q : Exit → Act → World → Prop} {E : Prop} (hgd : o.guard = none) (d s : Operand) (t : TypeId)
    (ho : o.op = .call { callee := .builtin .copy, args := #[d, s], argTypes := #[t, t] })
    (e : TypeId) (i : TypeInfo) (sz : Nat) (ht : P.underlying t = some (.slice e)) (hi : P.info? e = some i) (hsz : i.size = sz)
    (g off dLen dCap sb so sLen sCap : Nat) (hd : a.eval d = .slice (some ⟨g, off, none⟩) dLen dCap) (hs : a.eval s = .slice (some ⟨sb, so, none⟩) sLen sCap)
    (cur : List Value) (t' : TypeId) (cs : List Value) (k : Nat) (hg : Blk w g t' cur.toArray) (hk : k = min sLen dLen) (hl : cs.length = k * sz)
    (hsrc : ∀ j u, cs[j]? = some u → w.cell? ⟨sb, so + j, none⟩ = some u) (hfit : off + cs.length ≤ cur.length) (h1 : ∀ u ∈ cs, u.oneCell' = true)
    (h : ∀ w', Blk w' g t' (splice cur off cs).toArray → w.grownBy w' (some g) → K (a.put o.dst (goInt k)) w') :
    if Region.wanted o (yielded ops a.tmps) = true then Oper.wp P o a w K Q else E :=
  step_copy_r hgd d s t t ho hd hs (run_copy_blk w t o.type e i sz ht hi hsz g off dLen dCap sb so sLen sCap cur t' cs k hg hk hl hsrc hfit h1) (h _ (setRow_heap w g _ _ t' _ hg) (setRow_grown w g _))
theorem wpList_copy_blk {ops : Array Oper} {rest : List Oper} {o : Oper} {a : Act} {Q : Exit → Act → World → Prop} (hgd : o.guard = none) (d s : Operand) (t : TypeId)
    (ho : o.op = .call { callee := .builtin .copy, args := #[d, s], argTypes := #[t, t] })
    (e : TypeId) (i : TypeInfo) (sz : Nat) (ht : P.underlying t = some (.slice e)) (hi : P.info? e = some i) (hsz : i.size = sz)
    (g off dLen dCap sb so sLen sCap : Nat) (hd : a.eval d = .slice (some ⟨g, off, none⟩) dLen dCap) (hs : a.eval s = .slice (some ⟨sb, so, none⟩) sLen sCap)
    (cur : List Value) (t' : TypeId) (cs : List Value) (k : Nat) (hg : Blk w g t' cur.toArray) (hk : k = min sLen dLen) (hl : cs.length = k * sz)
    (hsrc : ∀ j u, cs[j]? = some u → w.cell? ⟨sb, so + j, none⟩ = some u) (hfit : off + cs.length ≤ cur.length) (h1 : ∀ u ∈ cs, u.oneCell' = true)
    (h : ∀ w', Blk w' g t' (splice cur off cs).toArray → w.grownBy w' (some g) → wpList P ops Q rest (a.put o.dst (goInt k)) w') : wpList P ops Q (o :: rest) a w :=
  wpList_copy_r w hgd d s t t ho hd hs (run_copy_blk w t o.type e i sz ht hi hsz g off dLen dCap sb so sLen sCap cur t' cs k hg hk hl hsrc hfit h1) (h _ (setRow_heap w g _ _ t' _ hg) (setRow_grown w g _))
theorem wpList_clear_blk {ops : Array Oper} {rest : List Oper} {o : Oper} {a : Act} {Q : Exit → Act → World → Prop} (hgd : o.guard = none) (s : Operand) (t : TypeId)
    (ho : o.op = .call { callee := .builtin .clear, args := #[s], argTypes := #[t] })
    (e : TypeId) (i : TypeInfo) (z : Value) (ht : P.underlying t = some (.slice e)) (hi : P.info? e = some i) (hz : i.zero = some z)
    (g off n c : Nat) (hs : a.eval s = .slice (some ⟨g, off, none⟩) n c)
    (cur : List Value) (t' : TypeId) (hg : Blk w g t' cur.toArray) (hfit : off + n * z.cells.size ≤ cur.length) (h1 : ∀ u ∈ z.cells, u.oneCell' = true)
    (h : ∀ w', Blk w' g t' (splice cur off (Builtin.zeroCells z.cells n).toList).toArray → w.grownBy w' (some g) → wpList P ops Q rest (a.put o.dst (.tuple #[])) w') : wpList P ops Q (o :: rest) a w :=
  wpList_clear_r w hgd s t ho hs (run_clear_blk w t o.type e i z ht hi hz g off n c cur t' hg hfit h1) (h _ (setRow_heap w g _ _ t' _ hg) (setRow_grown w g _))
end
section
variable {P : Program} (w : World)
theorem run_append_blk (t ty e : TypeId) (i : TypeInfo) (sz : Nat) (ht : P.underlying t = some (.slice e)) (hi : P.info? e = some i) (hsz : i.size = sz)
    (g sLen sCap : Nat) (cur : List Value) (hg : Blk w g e cur.toArray) (ad : Addr) (m c : Nat) (news : List Value) (hl : news.length = m * sz)
    (hsrc : ∀ j u, news[j]? = some u → w.cell? (ad.add j) = some u) (h1 : ∀ u ∈ news, u.oneCell' = true) (hroom : sLen + m ≤ sCap) (hfit : sLen * sz + news.length ≤ cur.length) :
    (Builtin.append_ #[t, t] ty #[.slice (some ⟨g, 0, none⟩) sLen sCap, .slice (some ad) m c]).run P w = .ok (.slice (some ⟨g, 0, none⟩) (sLen + m) sCap) (w.setRow g (splice cur (sLen * sz) news).toArray) := by
  subst hsz
  have h := run_append_room (P := P) w t ty e i ht hi g sLen sCap cur.toArray hg ad m c news hl hsrc h1 hroom (by simpa using hfit)
  simpa [splice, List.append_assoc] using h
theorem step_append_blk {ops : Array Oper} {o : Oper} {a : Act} {K : Act → World → Prop} {Q : Exit → Act → World → Prop} {E : Prop} (hgd : o.guard = none) (d s : Operand) (t : TypeId)
    (ho : o.op = .call { callee := .builtin .append, args := #[d, s], argTypes := #[t, t] })
    (e : TypeId) (i : TypeInfo) (sz : Nat) (ht : P.underlying t = some (.slice e)) (hi : P.info? e = some i) (hsz : i.size = sz)
    (g sLen sCap : Nat) (ad : Addr) (m c : Nat) (hd : a.eval d = .slice (some ⟨g, 0, none⟩) sLen sCap) (hs : a.eval s = .slice (some ad) m c)
    (cur : List Value) (hg : Blk w g e cur.toArray) (news : List Value) (hl : news.length = m * sz)
    (hsrc : ∀ j u, news[j]? = some u → w.cell? (ad.add j) = some u) (h1 : ∀ u ∈ news, u.oneCell' = true) (hroom : sLen + m ≤ sCap) (hfit : sLen * sz + news.length ≤ cur.length)
    (h : ∀ w', Blk w' g e (splice cur (sLen * sz) news).toArray → w.grownBy w' (some g) → K (a.put o.dst (.slice (some ⟨g, 0, none⟩) (sLen + m) sCap)) w') :
    if Region.wanted o (yielded ops a.tmps) = true then Oper.wp P o a w K Q else E :=
  step_append_r hgd d s t t ho hd hs (run_append_blk w t o.type e i sz ht hi hsz g sLen sCap cur hg ad m c news hl hsrc h1 hroom hfit) (h _ (setRow_heap w g _ _ e _ hg) (setRow_grown w g _))
end
section
variable {P : Program}
theorem grownBy_of_alloc {W w' : World} {o : Obj} {r : Option Nat} (h : (W.alloc o).grownBy w' r) : W.grownBy w' r :=
  ⟨h.os, h.tape, h.output, Nat.le_trans (by simp) h.size, fun k hk hne => (h.block k (by simp; omega) hne).trans (Below.heap_alloc _ _ _ hk)⟩
theorem wpList_append_one {W : World} {ops : Array Oper} {rest : List Oper} {o : Oper} {a : Act} {Q : Exit → Act → World → Prop} (hgd : o.guard = none) (s x : Operand) (t : TypeId)
    (ho : o.op = .call { callee := .builtin .append, args := #[s, x], argTypes := #[t, t] })
    {e : TypeId} {i : TypeInfo} {z : Value} {size bytes : Nat} (ht : P.underlying t = some (.slice e)) (hi : P.info? e = some i) (hz : i.zero = some z)
    (hsize : i.size = size) (hby : i.bytes = bytes) (hzs : z.cells.size = size) (hsz : 0 < size)
    {v : Value} {n : Nat} {xs : List Value} (hs : a.eval s = v) (hown : W.ownsRow 0 e size v n xs)
    (news : List Value) (hl : news.length = size) (h1 : ∀ u ∈ news, u.oneCell' = true) {N : Nat} (hx : a.eval x = .slice (some ⟨N, 0, none⟩) 1 1) (hN : N = W.heap.size)
    (h63 : n + 1 ≤ 1000001) (hbyt : bytes ≤ 1000)
    (h : ∀ v' w', w'.ownsRow 0 e size v' (n + 1) (xs ++ news) → W.grownBy w' v.ownBlock → (v'.ownBlock = v.ownBlock ∨ ∀ b, v'.ownBlock = some b → W.heap.size ≤ b) → wpList P ops Q rest (a.put o.dst v') w') : wpList P ops Q (o :: rest) a (W.alloc (.cells news.toArray e)) := by
  subst hN
  refine wpList_append_rd _ hgd s x t ho e i z size bytes ht hi hz hsize hby hzs hsz v n xs hs (hown.alloc _) (W.alloc (.cells news.toArray e)).heap.size (some ⟨W.heap.size, 0, none⟩) 1 1 news hx (Reads.of_blk (Blk.new W e news.toArray) (by omega)) h1 (by unfold maxLen; omega) ?_ fun v' w' h2 h3 h4 => h v' w' h2 (grownBy_of_alloc h3) ?_
  · calc (n + 1) * bytes ≤ 1000001 * 1000 := Nat.mul_le_mul h63 hbyt
      _ ≤ _ := by omega
  · rcases h4 with h4 | h4
    · exact .inl h4
    · exact .inr fun b hb => by rw [h4] at hb; injection hb with hb; simp at hb; omega
end
end Go.Proofs.Ytiejdbdbafmccaa
/- part ChMemo -/
namespace Go.Proofs.Ytiejdbdbafmccaa
open Go.RowKit
def MemoOk (ws cs : List Int) (es : Array MapEntry) : Prop := ∀ e ∈ es.toList, ∃ l r m, Pk l r m ∧ e.key = kv l r m ∧ e.val = av (ans ws cs l r m)
theorem memo_none (ws cs : List Int) : MemoOk ws cs #[] := fun e he => by simp at he
theorem memo_keys {ws cs : List Int} {es : Array MapEntry} (h : MemoOk ws cs es) : ∀ e ∈ es.toList, ∃ l, keyOf Try.prog 59 e.key = some l := fun e he => by
  obtain ⟨l, r, m, hp, hk, _⟩ := h e he
  rw [hk]
  exact key_part l r m hp
theorem info_AN : (Try.prog.info? 47).map (fun i => i.zero) = some (some (av (0, 0))) := by kernel_rfl
theorem zero_an (w : World) : (zeroValue 47).run Try.prog w = .ok (av (0, 0)) w := by
  cases h : Try.prog.info? 47 with
  | none => have := info_AN; rw [h] at this; cases this
  | some i =>
    have e := info_AN
    rw [h] at e
    simp only [Option.map_some, Option.some.injEq] at e
    exact zero_of_info _ h e
theorem memo_look {ws cs : List Int} {es : Array MapEntry} (hm : MemoOk ws cs es) (mp ck l r : Nat) (m : Int) (hp : Pk l r m) :
    ∃ (hit : Bool) (a : Int × Int), ((hit = true → a = ans ws cs l r m) ∧ ∀ w : World, w.heap[mp]? = some (.map es ck) → (Instr.lookup 55 (.map (some mp)) (kv l r m) true).run Try.prog w = .ok (.tuple #[av a, .bool hit]) w) := by
  obtain ⟨x, hx⟩ := key_part l r m hp
  by_cases hq : ∃ e ∈ es.toList, e.key = kv l r m
  · obtain ⟨e, he, hk⟩ := hq
    obtain ⟨l', r', m', _, hk', hv⟩ := hm e he
    refine ⟨true, ans ws cs l r m, fun _ => rfl, fun w hb => ?_⟩
    rcases part_law.find w hx es.toList (memo_keys hm) with ⟨_, h2⟩ | ⟨j, e0, h1, h2, h3⟩
    · exact absurd hk (h2 e he)
    · obtain ⟨l1, r1, m1, _, hk1, hv1⟩ := hm e0 (List.mem_of_getElem? h2)
      obtain ⟨rfl, rfl, rfl⟩ := kv_inj (hk1.symm.trans h3)
      simp [Instr.lookup, run_underlying Try.underlying55, MapKept.run_getObj_map hb, part_law.check w _ hx, h1, hv1, Result.andThen]
  · refine ⟨false, (0, 0), fun h => absurd h (by decide), fun w hb => ?_⟩
    rcases part_law.find w hx es.toList (memo_keys hm) with ⟨h1, h2⟩ | ⟨j, e0, h1, h2, h3⟩
    · simp [Instr.lookup, run_underlying Try.underlying55, MapKept.run_getObj_map hb, part_law.check w _ hx, h1, zero_an, Result.andThen]
      rfl
    · exact absurd ⟨e0, List.mem_of_getElem? h2, h3⟩ hq
theorem memo_put {ws cs : List Int} {es : Array MapEntry} (hm : MemoOk ws cs es) (mp ck l r : Nat) (m : Int) (hp : Pk l r m) (w : World) (hb : w.heap[mp]? = some (.map es ck)) :
    ∃ es' ck', MemoOk ws cs es' ∧ (Instr.mapUpdate 55 (.map (some mp)) (kv l r m) (av (ans ws cs l r m))).run Try.prog w = .ok () (ChangeMaps.setBlock w mp (.map es' ck')) := by
  obtain ⟨x, hx⟩ := key_part l r m hp
  rcases part_law.find w hx es.toList (memo_keys hm) with ⟨h1, h2⟩ | ⟨j, e0, h1, h2, h3⟩
  · refine ⟨es.push ⟨kv l r m, av (ans ws cs l r m), ck⟩, ck + 1, fun e he => ?_, ?_⟩
    · simp only [Array.toList_push, List.mem_append, List.mem_singleton] at he
      rcases he with he | rfl
      · exact hm e he
      · exact ⟨l, r, m, hp, rfl, rfl⟩
    · simp [Instr.mapUpdate, run_underlying Try.underlying55, MapKept.run_getObj_map hb, part_law.check w false hx, h1, MapKept.run_setObj_map _ hb, Result.andThen, ChangeMaps.setBlock]
  · have hj : es[j]? = some e0 := by simpa using h2
    refine ⟨es.modify j (fun e' => { e' with key := kv l r m, val := av (ans ws cs l r m) }), ck, fun e he => ?_, ?_⟩
    · rw [Array.toList_modify, ChangeMaps.modify_eq_set _ _ _ _ h2] at he
      rcases List.mem_or_eq_of_mem_set he with he | rfl
      · exact hm e he
      · exact ⟨l, r, m, hp, rfl, rfl⟩
    · simp [Instr.mapUpdate, run_underlying Try.underlying55, MapKept.run_getObj_map hb, part_law.check w false hx, h1, hj, h3, part_law.stays w hx, MapKept.run_setObj_map _ hb, Result.andThen, ChangeMaps.setBlock]
end Go.Proofs.Ytiejdbdbafmccaa
/- part ChSplit -/
namespace Go.Proofs.Ytiejdbdbafmccaa
open Go.RowKit Go.Proofs.YtiejdbdbafmccaaW.PrintLast
def Kn (w : World) (mp : Nat) (ws cs : List Int) : Prop := ∃ es ck, w.heap[mp]? = some (.map es ck) ∧ MemoOk ws cs es
structure AskP (w : World) (mp : Nat) (ws cs : List Int) (a : Int × Int) (e : Ending) (w' : World) : Prop where
  ret : e = .returned (.agg #[.int .i64 a.1, .int .i64 a.2])
  frm : Frm [some mp] w w'
  kn : Kn w' mp ws cs
def AskC (d : Nat) : Prop := ∀ (w : World) (g mp b0 o0 c0 b1 o1 c1 : Nat) (ws cs : List Int) (l r : Nat) (m : Int), SV w g mp b0 o0 c0 b1 o1 c1 ws cs → Kn w mp ws cs → Rt ws cs → l < r → r ≤ cs.length → r - l ≤ d → -65536 * (l : Int) ≤ m → m ≤ 4096 →
  Calls Try.prog 32 #[.pointer (some ⟨g, 0, none⟩), .agg #[.int .i64 (l : Int), .int .i64 (r : Int), .int .i64 m]] w (AskP w mp ws cs (ans ws cs l r m))
structure SpI (w : World) (g mp b0 o0 c0 b1 o1 c1 : Nat) (ws cs : List Int) (l r : Nat) (m x1 x2 : Int) (wr : World) : Prop where
  s0 : SV w g mp b0 o0 c0 b1 o1 c1 ws cs
  k0 : Kn w mp ws cs
  kn : Kn wr mp ws cs
  bp : Blk wr w.heap.size 59 #[.int .i64 (l : Int), .int .i64 (r : Int), .int .i64 m]
  ba : Blk wr (w.heap.size + 1) 47 #[.int .i64 0, .int .i64 0]
  bb : Blk wr (w.heap.size + 1 + 1) 47 #[.int .i64 x1, .int .i64 x2]
  fr : Frm [some mp] w wr
section
variable {w wr w' : World} {g mp b0 o0 c0 b1 o1 c1 : Nat} {ws cs : List Int} {l r : Nat} {m x1 x2 : Int}
theorem Kn.below (h : Kn wr mp ws cs) {B : Nat} (hb : Below B wr w') (hB : wr.heap.size ≤ B) : Kn w' mp ws cs := by
  obtain ⟨es, ck, h1, h2⟩ := h
  have hlt : mp < wr.heap.size := (Array.getElem?_eq_some_iff.1 h1).1
  exact ⟨es, ck, (hb.block mp (Nat.lt_of_lt_of_le hlt hB)).trans h1, h2⟩
theorem Kn.ne (h : Kn wr mp ws cs) {b : Nat} {t : TypeId} {v : Array Value} (hb : Blk wr b t v) : b ≠ mp := fun e => by
  obtain ⟨es, ck, h1, _⟩ := h
  unfold Blk at hb
  rw [e, h1] at hb
  cases hb
theorem SV.frm (h : SV wr g mp b0 o0 c0 b1 o1 c1 ws cs) (hk : Kn wr mp ws cs) (hb : Frm [some mp] wr w') : SV w' g mp b0 o0 c0 b1 o1 c1 ws cs := by
  obtain ⟨es, ck, h1, _⟩ := hk
  exact h.keep (fun b hl hne => hb.block b hl (by simpa using hne)) ⟨es, ck, h1⟩
theorem Blk.kn {b : Nat} {t : TypeId} {v : Array Value} (h : Blk wr b t v) (hk : Kn wr mp ws cs) (hb : Frm [some mp] wr w') : Blk w' b t v := h.frm hb (by simpa using hk.ne h)
theorem SpI.sv (h : SpI w g mp b0 o0 c0 b1 o1 c1 ws cs l r m x1 x2 wr) : SV wr g mp b0 o0 c0 b1 o1 c1 ws cs := h.s0.frm h.k0 h.fr
theorem SpI.below (h : SpI w g mp b0 o0 c0 b1 o1 c1 ws cs l r m x1 x2 wr) (hb : Below wr.heap.size wr w') : SpI w g mp b0 o0 c0 b1 o1 c1 ws cs l r m x1 x2 w' :=
  ⟨h.s0, h.k0, h.kn.below hb (Nat.le_refl _), h.bp.below hb h.bp.lt, h.ba.below hb h.ba.lt, h.bb.below hb h.bb.lt, h.fr.thenBelow hb⟩
theorem SpI.frm (h : SpI w g mp b0 o0 c0 b1 o1 c1 ws cs l r m x1 x2 wr) (hb : Frm [some mp] wr w') (hk : Kn w' mp ws cs) : SpI w g mp b0 o0 c0 b1 o1 c1 ws cs l r m x1 x2 w' :=
  ⟨h.s0, h.k0, hk, h.bp.kn h.kn hb, h.ba.kn h.kn hb, h.bb.kn h.kn hb, h.fr.trans hb⟩
theorem SpI.best (h : SpI w g mp b0 o0 c0 b1 o1 c1 ws cs l r m x1 x2 wr) (y1 y2 : Int) : SpI w g mp b0 o0 c0 b1 o1 c1 ws cs l r m y1 y2 ((wr.setCell ⟨w.heap.size + 1 + 1, 0, none⟩ (.int .i64 y1)).setCell ⟨w.heap.size + 1 + 1, 1, none⟩ (.int .i64 y2)) := by
  have hf : Frm [some (w.heap.size + 1 + 1)] wr ((wr.setCell ⟨w.heap.size + 1 + 1, 0, none⟩ (.int .i64 y1)).setCell ⟨w.heap.size + 1 + 1, 1, none⟩ (.int .i64 y2)) := ((Frm.refl _ _).setCell (Or.inl (by simp)) _).setCell (Or.inl (by simp)) _
  have hne := h.kn.ne h.bb
  obtain ⟨es, ck, h1, h2⟩ := h.kn
  have hml : mp < wr.heap.size := (Array.getElem?_eq_some_iff.1 h1).1
  refine ⟨h.s0, h.k0, ⟨es, ck, (hf.block mp hml (by simpa using fun e => hne e.symm)).trans h1, h2⟩, h.bp.frm hf (by simp; omega), h.ba.frm hf (by simp), ?_, ?_⟩
  · exact (h.bb.set_ 0 _).set_ 1 _
  · exact (h.fr.setCell (p := ⟨w.heap.size + 1 + 1, 0, none⟩) (Or.inr (by show w.heap.size ≤ w.heap.size + 1 + 1; omega)) _).setCell (p := ⟨w.heap.size + 1 + 1, 1, none⟩) (Or.inr (by show w.heap.size ≤ w.heap.size + 1 + 1; omega)) _
theorem Kn.cell (h : Kn wr mp ws cs) {p : Addr} (hp : p.block ≠ mp) (u : Value) : Kn (wr.setCell p u) mp ws cs := by
  obtain ⟨es, ck, h1, h2⟩ := h
  exact ⟨es, ck, (Below.heap_setCell wr p u mp (fun e => hp e.symm)).trans h1, h2⟩
theorem SpI.pair (h : SpI w g mp b0 o0 c0 b1 o1 c1 ws cs l r m x1 x2 wr) {s : Nat} {t : TypeId} {v : Array Value} (hs : Blk wr s t v) (hn : w.heap.size + 1 + 1 < s) (u1 u2 : Value) : SpI w g mp b0 o0 c0 b1 o1 c1 ws cs l r m x1 x2 ((wr.setCell ⟨s, 0, none⟩ u1).setCell ⟨s, 1, none⟩ u2) := by
  have hne := h.kn.ne hs
  have n0 : w.heap.size ≠ s := by omega
  have n1 : w.heap.size + 1 ≠ s := by omega
  have n2 : w.heap.size + 1 + 1 ≠ s := by omega
  have n3 : w.heap.size ≤ s := by omega
  exact ⟨h.s0, h.k0, (h.kn.cell (p := ⟨s, 0, none⟩) hne u1).cell (p := ⟨s, 1, none⟩) hne u2, (h.bp.far (p := ⟨s, 0, none⟩) n0 u1).far (p := ⟨s, 1, none⟩) n0 u2, (h.ba.far (p := ⟨s, 0, none⟩) n1 u1).far (p := ⟨s, 1, none⟩) n1 u2, (h.bb.far (p := ⟨s, 0, none⟩) n2 u1).far (p := ⟨s, 1, none⟩) n2 u2, (h.fr.setCell (p := ⟨s, 0, none⟩) (Or.inr n3) u1).setCell (p := ⟨s, 1, none⟩) (Or.inr n3) u2⟩
theorem SpI.ret (h : SpI w g mp b0 o0 c0 b1 o1 c1 ws cs l r m x1 x2 wr) {a : Int × Int} (ha : a = (x1, x2)) : AskP w mp ws cs a (.returned (.agg #[.int .i64 x1, .int .i64 x2])) ((wr.setCell ⟨w.heap.size + 1, 0, none⟩ (.int .i64 x1)).setCell ⟨w.heap.size + 1, 1, none⟩ (.int .i64 x2)) := by
  have hne := h.kn.ne h.ba
  have n3 : w.heap.size ≤ w.heap.size + 1 := by omega
  exact ⟨by rw [ha], (h.fr.setCell (p := ⟨w.heap.size + 1, 0, none⟩) (Or.inr n3) _).setCell (p := ⟨w.heap.size + 1, 1, none⟩) (Or.inr n3) _, (h.kn.cell (p := ⟨w.heap.size + 1, 0, none⟩) hne _).cell (p := ⟨w.heap.size + 1, 1, none⟩) hne _⟩
theorem SpI.drew (h : SpI w g mp b0 o0 c0 b1 o1 c1 ws cs l r m x1 x2 wr) : SpI w g mp b0 o0 c0 b1 o1 c1 ws cs l r m x1 x2 wr.drew := h.below (Below.refl _ _).drew
theorem SpI.alloc (h : SpI w g mp b0 o0 c0 b1 o1 c1 ws cs l r m x1 x2 wr) (o : Obj) : SpI w g mp b0 o0 c0 b1 o1 c1 ws cs l r m x1 x2 (wr.alloc o) := h.below ((Below.refl _ _).alloc (Nat.le_refl _) _)
theorem SpI.p0 (h : SpI w g mp b0 o0 c0 b1 o1 c1 ws cs l r m x1 x2 wr) : wr.cell? ⟨w.heap.size, 0, none⟩ = some (.int .i64 (l : Int)) := h.bp.cell 0
theorem SpI.p1 (h : SpI w g mp b0 o0 c0 b1 o1 c1 ws cs l r m x1 x2 wr) : wr.cell? ⟨w.heap.size, 1, none⟩ = some (.int .i64 (r : Int)) := h.bp.cell 1
theorem SpI.p2 (h : SpI w g mp b0 o0 c0 b1 o1 c1 ws cs l r m x1 x2 wr) : wr.cell? ⟨w.heap.size, 2, none⟩ = some (.int .i64 m) := h.bp.cell 2
theorem SpI.f0 (h : SpI w g mp b0 o0 c0 b1 o1 c1 ws cs l r m x1 x2 wr) : wr.cell? ⟨g, 0, none⟩ = some (.slice (some ⟨b0, o0, none⟩) ws.length c0) := h.sv.blk.cell 0
theorem SpI.f1 (h : SpI w g mp b0 o0 c0 b1 o1 c1 ws cs l r m x1 x2 wr) : wr.cell? ⟨g, 1, none⟩ = some (.slice (some ⟨b1, o1, none⟩) cs.length c1) := h.sv.blk.cell 1
theorem SpI.w0 (h : SpI w g mp b0 o0 c0 b1 o1 c1 ws cs l r m x1 x2 wr) {i : Nat} (hi : i < ws.length) : wr.cell? ⟨b0, o0 + i, none⟩ = some (.int .i64 (ws.getD i 0)) := h.sv.ws_ i hi
theorem SpI.y0 (h : SpI w g mp b0 o0 c0 b1 o1 c1 ws cs l r m x1 x2 wr) {i : Nat} (hi : i < cs.length) : wr.cell? ⟨b1, o1 + i, none⟩ = some (.int .i64 (cs.getD i 0)) := h.sv.cs_ i hi
theorem SpI.x0 (h : SpI w g mp b0 o0 c0 b1 o1 c1 ws cs l r m x1 x2 wr) : wr.cell? ⟨w.heap.size + 1 + 1, 0, none⟩ = some (.int .i64 x1) := h.bb.cell 0
theorem SpI.x1_ (h : SpI w g mp b0 o0 c0 b1 o1 c1 ws cs l r m x1 x2 wr) : wr.cell? ⟨w.heap.size + 1 + 1, 1, none⟩ = some (.int .i64 x2) := h.bb.cell 1
theorem SpI.a0 (h : SpI w g mp b0 o0 c0 b1 o1 c1 ws cs l r m x1 x2 wr) : wr.cell? ⟨w.heap.size + 1, 0, none⟩ = some (.int .i64 0) := h.ba.cell 0
theorem SpI.a1 (h : SpI w g mp b0 o0 c0 b1 o1 c1 ws cs l r m x1 x2 wr) : wr.cell? ⟨w.heap.size + 1, 1, none⟩ = some (.int .i64 0) := h.ba.cell 1
theorem SpI.lt (h : SpI w g mp b0 o0 c0 b1 o1 c1 ws cs l r m x1 x2 wr) : w.heap.size + 1 + 1 < wr.heap.size := h.bb.lt
theorem new_pair (w : World) (t : TypeId) (a b : Value) : Blk (((w.alloc (.cells #[.int .i64 0, .int .i64 0] t)).setCell ⟨w.heap.size, 0, none⟩ a).setCell ⟨w.heap.size, 1, none⟩ b) w.heap.size t #[a, b] :=
  ((Blk.new w t _).set_ 0 a).set_ 1 b
theorem below_pair (w : World) (t : TypeId) (a b : Value) : Below w.heap.size w (((w.alloc (.cells #[.int .i64 0, .int .i64 0] t)).setCell ⟨w.heap.size, 0, none⟩ a).setCell ⟨w.heap.size, 1, none⟩ b) :=
  ((((Below.refl _ _).alloc (Nat.le_refl _) _).setCell (p := ⟨w.heap.size, 0, none⟩) (Nat.le_refl _) _).setCell (p := ⟨w.heap.size, 1, none⟩) (Nat.le_refl _) _)
end
end Go.Proofs.Ytiejdbdbafmccaa
/- part SlZ -/
namespace Go.Proofs.Ytiejdbdbafmccaa
open Go.RowKit
section
variable {P : Program} (w : World)
theorem run_append_zeros (t tn ty e : TypeId) (i : TypeInfo) (z : Value) (kn : IntKind) (size bytes : Nat) (ht : P.underlying t = some (.slice e)) (htn : P.underlying tn = some (.int kn)) (hi : P.info? e = some i) (hz : i.zero = some z)
    (hsize : i.size = size) (hby : i.bytes = bytes) (hzs : z.cells.size = size) (hsz : 0 < size) (hz1 : ∀ u ∈ z.cells, u.oneCell' = true)
    (v : Value) (n : Nat) (xs : List Value) (hown : w.ownsRow 0 e size v n xs) (m : Nat) (hm : 0 < m)
    (h63 : n + m ≤ maxLen) (hbytes : (n + m) * bytes ≤ 140737488355328) :
    ∃ v' w', (Builtin.append_ #[t, tn] ty #[v, .int .i64 m]).run P w = .ok v' w' ∧ w'.ownsRow 0 e size v' (n + m) (xs ++ (Builtin.zeroCells z.cells m).toList) ∧ w.grownBy w' v.ownBlock ∧
      (v'.ownBlock = v.ownBlock ∨ v'.ownBlock = some w.heap.size) := by
  subst hsize
  subst hby
  have hsmall : n + m ≤ 9223372036854775807 := by simp only [maxLen] at h63; omega
  have hl : (Builtin.zeroCells z.cells m).toList.length = m * i.size := by simp [Builtin.zeroCells, hzs]
  have hlen : (xs ++ (Builtin.zeroCells z.cells m).toList).length = (n + m) * i.size := by rw [List.length_append, hown.1, hl, Nat.add_mul]
  have hw : IntKind.i64.wrap (m : Int) = m := by rw [IntKind.wrap_i64]; omega
  have hneg : ¬ ((m : Int) < 0) := by omega
  have hmb : m * i.bytes ≤ (n + m) * i.bytes := Nat.mul_le_mul_right _ (by omega)
  have h48i : ¬ (281474976710656 < (m : Int) * (i.bytes : Int)) := by rw [← Int.natCast_mul]; omega
  have hms : ¬ (m * i.size = 0) := by have := Nat.mul_pos hm hsz; omega
  have hm0 : ¬ m = 0 := by omega
  have hs0 : ¬ i.size = 0 := by omega
  have h63' : ¬ (9223372036854775807 < ((n : Int) + (m : Int))) := by omega
  have grown : ∀ (old : Nat), old < n + m → ∀ (row : Option Nat),
      (w.drew.alloc (.cells (xs.toArray ++ (Builtin.zeroCells z.cells m) ++ Builtin.zeroCells z.cells (grownCap w (n + m) old e - (n + m))) e)).ownsRow 0 e i.size
        (.slice (some ⟨w.heap.size, 0, none⟩) (n + m) (grownCap w (n + m) old e)) (n + m) (xs ++ (Builtin.zeroCells z.cells m).toList) ∧
      w.grownBy (w.drew.alloc (.cells (xs.toArray ++ (Builtin.zeroCells z.cells m) ++ Builtin.zeroCells z.cells (grownCap w (n + m) old e - (n + m))) e)) row := by
    intro old ho row
    have hge := grownCap_ge w (n + m) old e
    have hcm : grownCap w (n + m) old e ≤ maxLen := grownCap_le_maxLen w (n + m) old e h63
    refine ⟨⟨hlen, .inr ⟨w.heap.size, _, _, rfl, Nat.zero_le _, heap_alloc_new w.drew _, hge, hcm, ?_, ?_⟩⟩, ⟨rfl, rfl, rfl, by simp, fun k hk _ => Below.heap_alloc w.drew _ k hk⟩⟩
    · simp only [Array.size_append, List.size_toArray, size_zeroCells, hzs, hown.1, ← Nat.add_mul]
      congr 1
      omega
    · simp only [Array.toList_append, List.append_assoc]
      rw [← List.append_assoc, ← hlen]
      exact List.take_left
  rcases hown.2 with ⟨rfl, rfl⟩ | ⟨g, cap, cur, rfl, hbg, hg, hnc, hcm, hcs, htake⟩
  · have hx : xs = [] := List.eq_nil_of_length_eq_zero (by simpa using hown.1)
    subst hx
    have hgr := grown 0 (by omega) (Value.ownBlock (.slice none 0 0))
    simp only [Nat.zero_add, List.nil_append, Array.empty_append] at hgr ⊢
    refine ⟨_, _, ?_, hgr.1, hgr.2, Or.inr rfl⟩
    have h48' : Builtin.nextslicecap (0 + m) 0 * i.bytes ≤ 281474976710656 := by rw [Nat.zero_add, nextslicecap_zero hm]; omega
    have h := Go.Lib.run_append_grow_zeros (P := P) w t tn ty e i z .i64 kn ht htn hi hz none 0 0 [] (by simp [Builtin.firstCells, loadCells, loadCellsFrom]) m hm hsz (by omega) (by simp only [maxLen] at h63; omega) (by omega) h48'
    simpa using h
  · by_cases hroom : n + m ≤ cap
    · have hfit : n * i.size + (Builtin.zeroCells z.cells m).toList.length ≤ cur.size := by rw [hl, hcs, ← Nat.add_mul]; exact Nat.mul_le_mul_right _ hroom
      have hst := run_storeCells_at P g (n * i.size) e (Builtin.zeroCells z.cells m).toList 0 cur w hg (by simpa using hfit) (fun u hu => one_zeroCells hz1 m u (by simpa using hu))
      simp only [Nat.add_zero] at hst
      refine ⟨.slice (some ⟨g, 0, none⟩) (n + m) cap, w.setRow g (cur.toList.take (n * i.size) ++ (Builtin.zeroCells z.cells m).toList ++ cur.toList.drop (n * i.size + (Builtin.zeroCells z.cells m).toList.length)).toArray, ?_, ⟨hlen, .inr ⟨g, cap, _, rfl, hbg, setRow_heap w g cur _ e _ hg, hroom, hcm, ?_, ?_⟩⟩, ⟨rfl, rfl, rfl, by simp, fun k _ hk => setRow_other w g k _ (fun e => hk (by simp [Value.ownBlock, e]))⟩, Or.inl rfl⟩
      · simp [Builtin.append_, run_underlying ht, run_underlying htn, sizeOf, typeInfo, zeroValue, asInt, asIntOf, hi, hz, hw, hneg, h48i, hm0, hs0, hroom, Addr.add_lit, hst]
        intro h0
        exact absurd h0 hms
      · simp only [List.size_toArray, List.length_append, List.length_take, List.length_drop, Array.length_toList]
        rw [Array.length_toList] at hfit
        omega
      · rw [htake, ← hlen]
        exact List.take_left
    · have holds : ∀ j u, xs[j]? = some u → w.cell? ((⟨g, 0, none⟩ : Addr).add j) = some u := hown.cells (g := g) rfl
      have hgr := grown cap (by omega) (Value.ownBlock (.slice (some ⟨g, 0, none⟩) n cap))
      have hfo := run_firstCells_some (P := P) w.drew i.size n ⟨g, 0, none⟩ n cap xs hown.1 (by simpa using holds)
      exact ⟨_, _, Go.Lib.run_append_grow_zeros (P := P) w t tn ty e i z .i64 kn ht htn hi hz (some ⟨g, 0, none⟩) n cap xs hfo m hm hsz (by omega) (by simp only [maxLen] at h63; omega) (by omega) (growslice_fits (by omega) hbytes), hgr.1, hgr.2, Or.inr rfl⟩
theorem step_append_zeros {ops : Array Oper} {o : Oper} {a : Act} {w : World} {K : Act → World → Prop} {Q : Exit → Act → World → Prop} {E : Prop} (hgd : o.guard = none) (s x : Operand) (t tn : TypeId)
    (ho : o.op = .call { callee := .builtin .append, args := #[s, x], argTypes := #[t, tn] })
    (e : TypeId) (i : TypeInfo) (z : Value) (kn : IntKind) (size bytes : Nat) (ht : P.underlying t = some (.slice e)) (htn : P.underlying tn = some (.int kn)) (hi : P.info? e = some i) (hz : i.zero = some z)
    (hsize : i.size = size) (hby : i.bytes = bytes) (hzs : z.cells.size = size) (hsz : 0 < size) (hz1 : ∀ u ∈ z.cells, u.oneCell' = true)
    (v : Value) (n : Nat) (xs : List Value) (hs : a.eval s = v) (hown : w.ownsRow 0 e size v n xs) (m : Nat) (hx : a.eval x = .int .i64 m) (hm : 0 < m)
    (h63 : n + m ≤ maxLen) (hbytes : (n + m) * bytes ≤ 140737488355328)
    (h : ∀ v' w', w'.ownsRow 0 e size v' (n + m) (xs ++ (Builtin.zeroCells z.cells m).toList) → w.grownBy w' v.ownBlock → (v'.ownBlock = v.ownBlock ∨ v'.ownBlock = some w.heap.size) → K (a.put o.dst v') w') :
    if Region.wanted o (yielded ops a.tmps) = true then Oper.wp P o a w K Q else E := by
  obtain ⟨v', w', hrun, h2, h3, h4⟩ := run_append_zeros (P := P) w t tn o.type e i z kn size bytes ht htn hi hz hsize hby hzs hsz hz1 v n xs hown m hm h63 hbytes
  exact step_append_r hgd s x t tn ho hs hx hrun (h v' w' h2 h3 h4)
end
end Go.Proofs.Ytiejdbdbafmccaa
/- part ChSplitW -/
namespace Go.Proofs.Ytiejdbdbafmccaa
open Go.RowKit Go.Proofs.YtiejdbdbafmccaaW.PrintLast
structure SpJ (w : World) (g mp b0 o0 c0 b1 o1 c1 : Nat) (ws cs : List Int) (l r : Nat) (m : Int) (k : Nat) (wk : Int) (x : Int × Int) (wr : World) : Prop where
  i : SpI w g mp b0 o0 c0 b1 o1 c1 ws cs l r m x.1 x.2 wr
  wk0 : 0 ≤ wk
  wk1 : wk ≤ (k - 1 - l : Nat) * 1099511627776
  ok : Ok (r - l) x
  eq : ans ws cs l r m = loopP (ans ws cs) ws cs l r m (r - k) k wk x
theorem loop_stop {A : Nat → Nat → Int → Int × Int} {ws cs : List Int} {l r : Nat} {m : Int} {f k : Nat} {wk : Int} {x : Int × Int} (h : ¬ (k < r ∧ needStep ws cs l r (k - 1) ≤ m)) : loopP A ws cs l r m f k wk x = x := by
  cases f with
  | zero => rfl
  | succ f => unfold loopP; rw [if_neg h]
theorem SpJ.next {w wr W : World} {g mp b0 o0 c0 b1 o1 c1 : Nat} {ws cs : List Int} {l r k : Nat} {m wk : Int} {x nx : Int × Int} (h : SpJ w g mp b0 o0 c0 b1 o1 c1 ws cs l r m k wk x wr) (ht : Rt ws cs) (hr : r ≤ 64) (hl : l < k) (hk : k < r) (hs : needStep ws cs l r (k - 1) ≤ m)
    (hx : rnd (ans ws cs) ws l r m k (wk + cs.getD (k - 1) 0) x = nx) (hi : SpI w g mp b0 o0 c0 b1 o1 c1 ws cs l r m nx.1 nx.2 W) : SpJ w g mp b0 o0 c0 b1 o1 c1 ws cs l r m (k + 1) (wk + cs.getD (k - 1) 0) nx W := by
  have hc := cs_bd ht (k - 1)
  have h0 := h.wk0
  have h1 := h.wk1
  have n1 : 0 ≤ wk + cs.getD (k - 1) 0 := by omega
  have n3 : wk + cs.getD (k - 1) 0 ≤ (k - l : Nat) * 1099511627776 := by omega
  refine ⟨hi, n1, by omega, ?_, ?_⟩
  · rw [← hx]
    exact rnd_ok ht hr hl hk (ans_ok ht _ hk hr) (ans_ok ht _ hl (by omega)) ⟨n1, n3⟩ h.ok
  · rw [h.eq, show r - k = (r - (k + 1)) + 1 from by omega]
    conv => lhs; unfold loopP
    rw [if_pos ⟨hk, hs⟩, hx]
set_option maxRecDepth 100000 in
set_option maxHeartbeats 4000000 in
theorem split_any (d : Nat) (IH : AskC d) (w : World) (g mp b0 o0 c0 b1 o1 c1 : Nat) (ws cs : List Int) (l r : Nat) (m : Int) (h : SV w g mp b0 o0 c0 b1 o1 c1 ws cs) (hk : Kn w mp ws cs) (ht : Rt ws cs) (hl : l + 1 < r) (hr : r ≤ cs.length) (hd : r - l ≤ d + 1) (hm : -65536 * (l : Int) ≤ m) (hm2 : m ≤ 4096) :
    Calls Try.prog 45 #[.pointer (some ⟨g, 0, none⟩), .agg #[.int .i64 (l : Int), .int .i64 (r : Int), .int .i64 m]] w (AskP w mp ws cs (ans ws cs l r m)) := by
  have hhi := ht.hi
  have HT := Lib.hid ht
  have hlen := ht.len
  have HB : Hid (SpJ w g mp b0 o0 c0 b1 o1 c1 ws cs l r m (l + 1) 0 (-1, 0) (((w.alloc (.cells #[.int .i64 (l : Int), .int .i64 (r : Int), .int .i64 m] 59)).alloc (.cells #[.int .i64 0, .int .i64 0] 47)).alloc (.cells #[.int .i64 (-1), .int .i64 0] 47))) := by
    have hb : Below w.heap.size w (((w.alloc (.cells #[.int .i64 (l : Int), .int .i64 (r : Int), .int .i64 m] 59)).alloc (.cells #[.int .i64 0, .int .i64 0] 47)).alloc (.cells #[.int .i64 (-1), .int .i64 0] 47)) := (((Below.refl _ _).alloc (Nat.le_refl _) _).alloc (by simp) _).alloc (by simp; omega) _
    have e1 : (w.alloc (.cells #[.int .i64 (l : Int), .int .i64 (r : Int), .int .i64 m] 59)).heap.size = w.heap.size + 1 := by simp
    have e2 : ((w.alloc (.cells #[.int .i64 (l : Int), .int .i64 (r : Int), .int .i64 m] 59)).alloc (.cells #[.int .i64 0, .int .i64 0] 47)).heap.size = w.heap.size + 1 + 1 := by simp
    refine ⟨⟨h, hk, hk.below hb (Nat.le_refl _), ((Blk.new _ _ _).alloc _).alloc _, ?_, ?_, Frm.of_below hb⟩, by omega, by omega, ⟨Or.inl rfl, by simp, by simp⟩, ?_⟩
    · have q := (Blk.new (w.alloc (.cells #[.int .i64 (l : Int), .int .i64 (r : Int), .int .i64 m] 59)) 47 #[.int .i64 0, .int .i64 0]).alloc (.cells #[.int .i64 (-1), .int .i64 0] 47)
      rwa [e1] at q
    · have q := Blk.new ((w.alloc (.cells #[.int .i64 (l : Int), .int .i64 (r : Int), .int .i64 m] 59)).alloc (.cells #[.int .i64 0, .int .i64 0] 47)) 47 #[.int .i64 (-1), .int .i64 0]
      rwa [e2] at q
    · exact ans_split hl
  have g1 : (0 : Int) ≤ (l : Int) := by omega
  have g2 : (l : Int) ≤ 64 := by omega
  have g3 : (r : Int) ≤ 64 := by omega
  have HL := Lib.hid hl; have HR := Lib.hid hr; have HD := Lib.hid hd; have HM := Lib.hid hm; have HM2 := Lib.hid hm2; have HLN := Lib.hid hlen; have HHI := Lib.hid hhi
  clear h hk ht hlen hl hr hd hm hm2 hhi
  go_enter Try.func45, Try.ntmps45
  go_wp2_with fail
  go_loopw [6, 7] (fun u i wr => ∃ (k : Nat) (wk : Int) (x : Int × Int), l + 1 ≤ k ∧ k ≤ r ∧ i = .int .i64 k ∧ u = .int .i64 wk ∧ SpJ w g mp b0 o0 c0 b1 o1 c1 ws cs l r m k wk x wr) (fun _ i _ => r - (intOf i).toNat)
  case atStart => exact ⟨l + 1, 0, (-1, 0), Nat.le_refl _, by have := HL.out; omega, by go_num, rfl, HB.out⟩
  case round =>
    obtain ⟨k, wk, x, hk1, hk2, rfl, rfl, hJ⟩ := hrel
    clear HB
    have hI := hJ.i
    have p0 := hI.p0
    have p1 := hI.p1
    have p2 := hI.p2
    have k1 : (1 : Int) ≤ (k : Int) := by omega
    have k2 : (k : Int) ≤ 64 := by omega
    by_cases hlt : k < r
    · have hlt' : (k : Int) < (r : Int) := by omega
      have HST : Hid (Calls Try.prog 52 #[.pointer (some ⟨g, 0, none⟩), .agg #[.int .i64 (l : Int), .int .i64 (r : Int), .int .i64 m], .int .i64 ((k : Int) - 1)] wr fun e w' => e = .returned (.bool (decide (needStep ws cs l r (k - 1) ≤ m))) ∧ Below wr.heap.size wr w') := by
        have q := step_any wr g mp b0 o0 c0 b1 o1 c1 ws cs hI.sv HT.out l r (k - 1) m (by omega) (by omega) HR.out (by have := HM.out; omega) (by have := HM2.out; omega)
        rw [show ((k - 1 : Nat) : Int) = (k : Int) - 1 from by omega] at q
        exact q
      have HI := Lib.hid hI
      have HJ := Lib.hid hJ
      clear hI hJ
      by_cases hs : needStep ws cs l r (k - 1) ≤ m
      · rw [decide_eq_true hs] at HST
        have HS := Lib.hid hs
        clear hs
        have hkl : k < ws.length := by have := HLN.out; have := HR.out; omega
        have hkc : k - 1 < cs.length := by have := HR.out; omega
        have HAS : Hid (∀ W, SpI w g mp b0 o0 c0 b1 o1 c1 ws cs l r m x.1 x.2 W → Calls Try.prog 32 #[.pointer (some ⟨g, 0, none⟩), .agg #[.int .i64 (k : Int), .int .i64 (r : Int), .int .i64 (wrap64 (m - ws.getD k 0))]] W (AskP W mp ws cs (ans ws cs k r (m - ws.getD k 0)))) := Lib.hid fun W hW => by
          have h1 := ws_bd HT.out k
          have := HM.out; have := HM2.out; have := HD.out; have := HHI.out
          rw [wr64 (by omega) (by omega)]
          exact IH W g mp b0 o0 c0 b1 o1 c1 ws cs k r _ hW.sv hW.kn HT.out hlt HR.out (by omega) (by omega) (by omega)
        have HAB : Hid (∀ W, SpI w g mp b0 o0 c0 b1 o1 c1 ws cs l r m x.1 x.2 W → Calls Try.prog 32 #[.pointer (some ⟨g, 0, none⟩), .agg #[.int .i64 (l : Int), .int .i64 (k : Int), .int .i64 m]] W (AskP W mp ws cs (ans ws cs l k m))) := Lib.hid fun W hW => by
          have := HM.out; have := HM2.out; have := HD.out; have := HR.out
          exact IH W g mp b0 o0 c0 b1 o1 c1 ws cs l k _ hW.sv hW.kn HT.out (by omega) (by omega) (by omega) (by omega) (by omega)
        have HN : Hid (∀ nx W, rnd (ans ws cs) ws l r m k (wk + cs.getD (k - 1) 0) x = nx → SpI w g mp b0 o0 c0 b1 o1 c1 ws cs l r m nx.1 nx.2 W → SpJ w g mp b0 o0 c0 b1 o1 c1 ws cs l r m (k + 1) (wk + cs.getD (k - 1) 0) nx W) := Lib.hid fun nx W h1 h2 =>
          HJ.out.next HT.out (by have := HR.out; have := HHI.out; omega) (by omega) hlt HS.out h1 h2
        have HRD : Hid (rnd (ans ws cs) ws l r m k (wk + cs.getD (k - 1) 0) x = if (ans ws cs k r (m - ws.getD k 0)).1 = -1 then x else if (ans ws cs l k m).1 = -1 then x else best' x (wk + cs.getD (k - 1) 0 + (ans ws cs k r (m - ws.getD k 0)).1 + (ans ws cs l k m).1) k) := Lib.hid rfl
        have t1 := ok_le (ans_ok HT.out (l := k) (r := r) (m - ws.getD k 0) hlt (by omega)) (by omega)
        have t2 := ok_le (ans_ok HT.out (l := l) (r := k) m (by omega) (by omega)) (by omega)
        have t3 := ok_le HJ.out.ok (by omega)
        have t4 := cs_bd HT.out (k - 1)
        have t5 := ws_bd HT.out k
        have t6 := HJ.out.wk0
        have t7 := HJ.out.wk1
        have t8 : wk ≤ 70368744177664 := by omega
        have t9 : -5000000 ≤ m := by have := HM.out; omega
        have t10 : m ≤ 4096 := HM2.out
        have i1 : ((k : Int) - 1).toNat = k - 1 := by omega
        have i3 : (0 : Int) ≤ (k : Int) - 1 := by omega
        have i4 : (k : Int) - 1 < (cs.length : Int) := by omega
        have i5 : (k : Int) < (ws.length : Int) := by omega
        have i6 : (0 : Int) ≤ (k : Int) := by omega
        have HWX : Hid (∀ W, SpI w g mp b0 o0 c0 b1 o1 c1 ws cs l r m x.1 x.2 W → W.cell? ⟨b0, o0 + k, none⟩ = some (.int .i64 (ws.getD k 0))) := Lib.hid fun W hW => hW.w0 hkl
        have HCX : Hid (∀ W, SpI w g mp b0 o0 c0 b1 o1 c1 ws cs l r m x.1 x.2 W → W.cell? ⟨b1, o1 + (k - 1), none⟩ = some (.int .i64 (cs.getD (k - 1) 0))) := Lib.hid fun W hW => hW.y0 hkc
        clear t7
        generalize rnd (ans ws cs) ws l r m k (wk + cs.getD (k - 1) 0) x = RD at *
        generalize hA : ans ws cs k r (m - ws.getD k 0) = A at *
        generalize hB : ans ws cs l k m = B at *
        obtain ⟨y1, y2⟩ := A
        obtain ⟨z1, z2⟩ := B
        obtain ⟨x1, x2⟩ := x
        clear hA hB
        generalize ws.getD k 0 = X at *
        generalize cs.getD (k - 1) 0 = Y at *
        simp only at *
        go_wp2_with (go_at_call 52; refine HST.out.mono ?_; rintro e w1 ⟨rfl, hb1⟩; have hI1 := HI.out.below hb1; have q0 := hI1.p0; have q1 := hI1.p1; have q2 := hI1.p2; have q3 := hI1.f0; have q4 := hI1.f1; have q5 := HCX.out _ hI1; have HI1 := Lib.hid hI1; clear hb1 hI1)
        refine start_ (n := 19) (S := fun w' => w'.cell? ⟨w.heap.size, 1, none⟩ = some (.int .i64 (r : Int)) ∧ w'.cell? ⟨w.heap.size, 2, none⟩ = some (.int .i64 m) ∧ w'.cell? ⟨g, 0, none⟩ = some (.slice (some ⟨b0, o0, none⟩) ws.length c0) ∧ w'.cell? ⟨b0, o0 + k, none⟩ = some (.int .i64 X)) (ds := [18]) #[false, false, false, false, false, false, false, false, false, false, false, false, false, false, false, false, false, false, false] (by kernel_rfl) rfl rfl ⟨HI1.out.drew.p1, HI1.out.drew.p2, HI1.out.drew.f0, (HWX.out _ HI1.out.drew)⟩ (fun hHeld => ?_)
        refine pure_ (i := 0) (N := some 39) (v := ?_) (a' := ?_) #[true, false, false, false, false, false, false, false, false, false, false, false, false, false, false, false, false, false, false] rfl rfl (by kernel_rfl) (fun _ _ _ h => h) (Or.inl ⟨by rfl, ?_⟩) ?_ ?_
        rotate_left
        · intro w'
          go_simp
          with_reducible rfl
        rotate_left
        · simp only [Act.put, List.setIfInBounds_toArray, List.set_cons_zero, List.set_cons_succ, i64_w, i32_w]
          rfl
        refine pure_ (i := 1) (N := some 40) (v := ?_) (a' := ?_) #[true, true, false, false, false, false, false, false, false, false, false, false, false, false, false, false, false, false, false] rfl rfl (by kernel_rfl) (fun _ _ _ h => h) (Or.inl ⟨by rfl, ?_⟩) ?_ ?_
        rotate_left
        · intro w'
          go_simp
          with_reducible rfl
        rotate_left
        · simp only [Act.put, List.setIfInBounds_toArray, List.set_cons_zero, List.set_cons_succ, i64_w, i32_w]
          rfl
        refine pure_ (i := 2) (N := some 41) (v := ?_) (a' := ?_) #[true, true, true, false, false, false, false, false, false, false, false, false, false, false, false, false, false, false, false] rfl rfl (by kernel_rfl) (fun _ _ _ h => h) (Or.inl ⟨by rfl, ?_⟩) ?_ ?_
        rotate_left
        · intro w'
          go_simp
          with_reducible rfl
        rotate_left
        · simp only [Act.put, List.setIfInBounds_toArray, List.set_cons_zero, List.set_cons_succ, i64_w, i32_w]
          rfl
        refine pure_ (i := 4) (N := some 43) (v := ?_) (a' := ?_) #[true, true, true, false, true, false, false, false, false, false, false, false, false, false, false, false, false, false, false] rfl rfl (by kernel_rfl) (fun _ _ _ h => h) (Or.inl ⟨by rfl, ?_⟩) ?_ ?_
        rotate_left
        · intro w'
          go_simp
          with_reducible rfl
        rotate_left
        · simp only [Act.put, List.setIfInBounds_toArray, List.set_cons_zero, List.set_cons_succ, i64_w, i32_w]
          rfl
        refine pure_ (i := 6) (N := some 45) (v := ?_) (a' := ?_) #[true, true, true, false, true, false, true, false, false, false, false, false, false, false, false, false, false, false, false] rfl rfl (by kernel_rfl) (fun _ _ _ h => h) (Or.inl ⟨by rfl, ?_⟩) ?_ ?_
        rotate_left
        · intro w'
          go_simp
          with_reducible rfl
        rotate_left
        · simp only [Act.put, List.setIfInBounds_toArray, List.set_cons_zero, List.set_cons_succ, i64_w, i32_w]
          rfl
        refine pure_ (i := 7) (N := some 46) (v := ?_) (a' := ?_) #[true, true, true, false, true, false, true, true, false, false, false, false, false, false, false, false, false, false, false] rfl rfl (by kernel_rfl) (fun _ _ _ h => h) (Or.inl ⟨by rfl, ?_⟩) ?_ ?_
        rotate_left
        · intro w'
          go_simp
          with_reducible rfl
        rotate_left
        · simp only [Act.put, List.setIfInBounds_toArray, List.set_cons_zero, List.set_cons_succ, i64_w, i32_w]
          rfl
        refine pure_ (i := 8) (N := some 47) (v := ?_) (a' := ?_) #[true, true, true, false, true, false, true, true, true, false, false, false, false, false, false, false, false, false, false] rfl rfl (by kernel_rfl) (fun _ _ _ h => h) (Or.inl ⟨by rfl, ?_⟩) ?_ ?_
        rotate_left
        · intro w'
          go_simp
          with_reducible rfl
        rotate_left
        · simp only [Act.put, List.setIfInBounds_toArray, List.set_cons_zero, List.set_cons_succ, i64_w, i32_w]
          rfl
        refine pure_ (i := 9) (N := some 48) (v := ?_) (a' := ?_) #[true, true, true, false, true, false, true, true, true, true, false, false, false, false, false, false, false, false, false] rfl rfl (by kernel_rfl) (fun _ _ _ h => h) (Or.inl ⟨by rfl, ?_⟩) ?_ ?_
        rotate_left
        · intro w'
          go_simp
          with_reducible rfl
        rotate_left
        · simp only [Act.put, List.setIfInBounds_toArray, List.set_cons_zero, List.set_cons_succ, i64_w, i32_w]
          rfl
        refine pure_ (i := 11) (N := some 50) (v := ?_) (a' := ?_) #[true, true, true, false, true, false, true, true, true, true, false, true, false, false, false, false, false, false, false] rfl rfl (by kernel_rfl) (fun _ _ _ h => h) (Or.inl ⟨by rfl, ?_⟩) ?_ ?_
        rotate_left
        · intro w'
          go_simp
          with_reducible rfl
        rotate_left
        · simp only [Act.put, List.setIfInBounds_toArray, List.set_cons_zero, List.set_cons_succ, i64_w, i32_w]
          rfl
        refine take_ (i := 3) (N := some 42) (v := ?_) (a' := ?_) #[true, true, true, true, true, false, true, true, true, true, false, true, false, false, false, false, false, false, false] rfl rfl (by kernel_rfl) (fun _ _ _ h => h) (Or.inl ⟨by rfl, ?_⟩) hHeld ?_ ?_
        rotate_left
        · rintro w' ⟨s0, s1, s2, s3⟩
          go_simp
          with_reducible rfl
        rotate_left
        · simp only [Act.put, List.setIfInBounds_toArray, List.set_cons_zero, List.set_cons_succ, i64_w, i32_w]
          rfl
        refine take_ (i := 5) (N := some 44) (v := ?_) (a' := ?_) #[true, true, true, true, true, true, true, true, true, true, false, true, false, false, false, false, false, false, false] rfl rfl (by kernel_rfl) (fun _ _ _ h => h) (Or.inl ⟨by rfl, ?_⟩) hHeld ?_ ?_
        rotate_left
        · rintro w' ⟨s0, s1, s2, s3⟩
          go_simp
          with_reducible rfl
        rotate_left
        · simp only [Act.put, List.setIfInBounds_toArray, List.set_cons_zero, List.set_cons_succ, i64_w, i32_w]
          rfl
        refine take_ (i := 10) (N := some 49) (v := ?_) (a' := ?_) #[true, true, true, true, true, true, true, true, true, true, true, true, false, false, false, false, false, false, false] rfl rfl (by kernel_rfl) (fun _ _ _ h => h) (Or.inl ⟨by rfl, ?_⟩) hHeld ?_ ?_
        rotate_left
        · rintro w' ⟨s0, s1, s2, s3⟩
          go_simp
          with_reducible rfl
        rotate_left
        · simp only [Act.put, List.setIfInBounds_toArray, List.set_cons_zero, List.set_cons_succ, i64_w, i32_w]
          rfl
        refine pure_ (i := 12) (N := some 51) (v := ?_) (a' := ?_) #[true, true, true, true, true, true, true, true, true, true, true, true, true, false, false, false, false, false, false] rfl rfl (by kernel_rfl) (fun _ _ _ h => h) (Or.inl ⟨by rfl, ?_⟩) ?_ ?_
        rotate_left
        · intro w'
          go_simp
          with_reducible rfl
        rotate_left
        · simp only [Act.put, List.setIfInBounds_toArray, List.set_cons_zero, List.set_cons_succ, i64_w, i32_w]
          rfl
        refine take_ (i := 13) (N := some 52) (v := ?_) (a' := ?_) #[true, true, true, true, true, true, true, true, true, true, true, true, true, true, false, false, false, false, false] rfl rfl (by kernel_rfl) (fun _ _ _ h => h) (Or.inl ⟨by rfl, ?_⟩) hHeld ?_ ?_
        rotate_left
        · rintro w' ⟨s0, s1, s2, s3⟩
          go_simp
          with_reducible rfl
        rotate_left
        · simp only [Act.put, List.setIfInBounds_toArray, List.set_cons_zero, List.set_cons_succ, i64_w, i32_w]
          rfl
        refine pure_ (i := 14) (N := some 53) (v := ?_) (a' := ?_) #[true, true, true, true, true, true, true, true, true, true, true, true, true, true, true, false, false, false, false] rfl rfl (by kernel_rfl) (fun _ _ _ h => h) (Or.inl ⟨by rfl, ?_⟩) ?_ ?_
        rotate_left
        · intro w'
          go_simp
          with_reducible rfl
        rotate_left
        · simp only [Act.put, List.setIfInBounds_toArray, List.set_cons_zero, List.set_cons_succ, i64_w, i32_w]
          rfl
        refine pure_ (i := 15) (N := some 54) (v := ?_) (a' := ?_) #[true, true, true, true, true, true, true, true, true, true, true, true, true, true, true, true, false, false, false] rfl rfl (by kernel_rfl) (fun _ _ _ h => h) (Or.inl ⟨by rfl, ?_⟩) ?_ ?_
        rotate_left
        · intro w'
          go_simp
          with_reducible rfl
        rotate_left
        · simp only [Act.put, List.setIfInBounds_toArray, List.set_cons_zero, List.set_cons_succ, i64_w, i32_w]
          rfl
        refine join_ (σ := Nat) 1 #[true, true, true, true, true, true, true, true, true, true, true, true, true, true, true, true, true, true, false] (fun s => [(55, .agg #[.int .i64 y1, .int .i64 y2]), (8, .pointer (some ⟨s, 0, none⟩))]) (fun s w' => SpI w g mp b0 o0 c0 b1 o1 c1 ws cs l r m x1 x2 w' ∧ Blk w' s 47 #[.int .i64 0, .int .i64 0] ∧ w.heap.size + 1 + 1 < s) ?_ ?_
        rotate_left
        · intro hCont
          refine two_ (i := 16) (j := 17) (Ni := some 55) (Nj := some 8) #[true, true, true, true, true, true, true, true, true, true, true, true, true, true, true, true, true, false, false] #[true, true, true, true, true, true, true, true, true, true, true, true, true, true, true, true, false, true, false] rfl rfl rfl rfl (by kernel_rfl) (by decide) (by decide) (fun K hK => ?_) (fun K hK => ?_)
          · skip
            refine goes_ Try.func32 (by kernel_rfl) rfl #[.pointer (some ⟨g, 0, none⟩), .agg #[.int .i64 (k : Int), .int .i64 (r : Int), .int .i64 (wrap64 (m - X))]] (by rfl) rfl rfl (by simp only [List.map_toArray, List.map_cons, List.map_nil]; rfl) ?_
            with_reducible refine (HAS.out _ HI1.out.drew).mono ?_
            rintro e w5 ⟨rfl, hf5, hk5⟩
            refine ⟨_, rfl, ?_⟩
            have hI5 := HI1.out.drew.frm hf5 hk5
            clear hf5 hk5
            refine hK.out _ _ ⟨hI5.p1, hI5.p2, hI5.f0, (HWX.out _ hI5)⟩ (fun hHeld => ?_)
            clear hK K
            refine norm_ (a' := ?_) ?_ ?_
            rotate_left
            · show Act.put _ (some 55) _ = _
              simp only [Act.put, List.setIfInBounds_toArray, List.set_cons_zero, List.set_cons_succ, i64_w, i32_w]
              rfl
            refine one_ (i := 17) (N := some 8) #[true, true, true, true, true, true, true, true, true, true, true, true, true, true, true, true, true, true, false] rfl rfl (by kernel_rfl) (by decide) (fun K hK => ?_)
            refine value_ (w1 := ?_) (v := ?_) (by rfl) rfl ?_ ?_
            rotate_left 2
            · go_simp
              constructor
              · rfl
              · rfl
            refine hK.out _ _ ⟨(hI5.alloc _).p1, (hI5.alloc _).p2, (hI5.alloc _).f0, (HWX.out _ (hI5.alloc _))⟩ (fun hHeld => ?_)
            clear hK K
            refine norm_ (a' := ?_) ?_ ?_
            rotate_left
            · show Act.put _ (some 8) _ = _
              simp only [Act.put, List.setIfInBounds_toArray, List.set_cons_zero, List.set_cons_succ, i64_w, i32_w]
              rfl
            exact norm_ (by simp only [putAll, Act.put, List.setIfInBounds_toArray, List.set_cons_zero, List.set_cons_succ]) (hCont w5.heap.size _ ⟨hI5.alloc _, Blk.new _ _ _, hI5.lt⟩)
          · skip
            refine value_ (w1 := ?_) (v := ?_) (by rfl) rfl ?_ ?_
            rotate_left 2
            · go_simp
              constructor
              · rfl
              · rfl
            refine hK.out _ _ ⟨(HI1.out.alloc _).drew.p1, (HI1.out.alloc _).drew.p2, (HI1.out.alloc _).drew.f0, (HWX.out _ (HI1.out.alloc _).drew)⟩ (fun hHeld => ?_)
            clear hK K
            refine norm_ (a' := ?_) ?_ ?_
            rotate_left
            · show Act.put _ (some 8) _ = _
              simp only [Act.put, List.setIfInBounds_toArray, List.set_cons_zero, List.set_cons_succ, i64_w, i32_w]
              rfl
            refine one_ (i := 16) (N := some 55) #[true, true, true, true, true, true, true, true, true, true, true, true, true, true, true, true, true, true, false] rfl rfl (by kernel_rfl) (by decide) (fun K hK => ?_)
            refine goes_ Try.func32 (by kernel_rfl) rfl #[.pointer (some ⟨g, 0, none⟩), .agg #[.int .i64 (k : Int), .int .i64 (r : Int), .int .i64 (wrap64 (m - X))]] (by rfl) rfl rfl (by simp only [List.map_toArray, List.map_cons, List.map_nil]; rfl) ?_
            with_reducible refine (HAS.out _ (HI1.out.alloc _).drew).mono ?_
            rintro e w5 ⟨rfl, hf5, hk5⟩
            refine ⟨_, rfl, ?_⟩
            have hI5 := (HI1.out.alloc _).drew.frm hf5 hk5
            have hB5 := (Blk.new w1 _ _).drew.kn (HI1.out.alloc _).drew.kn hf5
            clear hf5 hk5
            refine hK.out _ _ ⟨hI5.p1, hI5.p2, hI5.f0, (HWX.out _ hI5)⟩ (fun hHeld => ?_)
            clear hK K
            refine norm_ (a' := ?_) ?_ ?_
            rotate_left
            · show Act.put _ (some 55) _ = _
              simp only [Act.put, List.setIfInBounds_toArray, List.set_cons_zero, List.set_cons_succ, i64_w, i32_w]
              rfl
            exact norm_ (by simp only [putAll, Act.put, List.setIfInBounds_toArray, List.set_cons_zero, List.set_cons_succ]) (hCont w1.heap.size _ ⟨hI5, hB5, HI1.out.lt⟩)
        rintro s7 w7 ⟨hI7, hB7, hs7⟩
        have hHeld := And.intro hI7.p1 (And.intro hI7.p2 (And.intro hI7.f0 (HWX.out _ hI7)))
        have v0 := hB7.cell 0
        have v1 := hB7.cell 1
        have vz0 := hB7.frozen 0
        have vz1 := hB7.frozen 1
        simp only [List.getElem?_toArray, List.getElem?_cons_zero, List.getElem?_cons_succ] at v0 v1
        refine norm_ (a' := ?_) ?_ ?_
        rotate_left
        · simp only [putAll, Act.put, List.setIfInBounds_toArray, List.set_cons_zero, List.set_cons_succ]
          rfl
        refine last_ (i := 18) (N := none) #[true, true, true, true, true, true, true, true, true, true, true, true, true, true, true, true, true, true, true] rfl rfl (by kernel_rfl) (by decide) (fun K hK => ?_)
        refine skip_ (w1 := ?_) (by rfl) rfl ?_ ?_
        rotate_left
        · go_simp
          rfl
        refine hK.out _ _ ?_
        clear hK K
        refine done_ (by kernel_rfl) ?_
        obtain ⟨w8, hw8⟩ : ∃ w8, w8 = (w7.setCell ⟨s7, 0, none⟩ (.int .i64 y1)).setCell ⟨s7, 1, none⟩ (.int .i64 y2) := ⟨_, rfl⟩
        rw [← hw8]
        have hI8 : SpI w g mp b0 o0 c0 b1 o1 c1 ws cs l r m x1 x2 w8 := by rw [hw8]; exact hI7.pair hB7 hs7 _ _
        have hB8 : Blk w8 s7 47 #[.int .i64 y1, .int .i64 y2] := by rw [hw8]; exact (hB7.set_ 0 _).set_ 1 _
        clear hw8 hHeld v0 v1 vz0 vz1 hI7 hB7 hs7 p0 p1 p2 q0 q1 q2 q3 q4 q5 HI1 HI HAS HWX HCX
        have v0 := hB8.cell 0
        have p0 := hI8.p0
        have p1 := hI8.p1
        have p2 := hI8.p2
        simp only [List.getElem?_toArray, List.getElem?_cons_zero, List.getElem?_cons_succ] at v0
        have HI8 := Lib.hid hI8
        have HB8 := Lib.hid hB8
        clear hI8 hB8
        by_cases hy : y1 = -1
        · have hrd := HRD.out.trans (if_pos hy)
          have HRX := Lib.hid hrd
          clear hrd HRD
          subst hy
          go_wp2_with fail
          go_roundw
          case rel => exact ⟨k + 1, wk + Y, (x1, x2), by omega, by omega, by go_num, rfl, HN.out (x1, x2) _ HRX.out HI8.out⟩
          case measure => simp [intOf]; omega
        · have HR2 := Lib.hid (HRD.out.trans (if_neg hy))
          clear HRD
          by_cases hz : z1 = -1
          · have HRX := Lib.hid (HR2.out.trans (if_pos hz))
            clear HR2
            subst hz
            go_wp2_with (go_at_call 32; refine (HAB.out _ HI8.out).mono ?_; rintro e w9 ⟨rfl, hf9, hk9⟩; have HI9 := Lib.hid ((HI8.out.frm hf9 hk9)); clear hf9 hk9)
            go_roundw
            case rel => exact ⟨k + 1, wk + Y, (x1, x2), by omega, by omega, by go_num, rfl, HN.out (x1, x2) _ HRX.out (HI9.out.alloc _)⟩
            case measure => simp [intOf]; omega
          · have HR3 := Lib.hid (HR2.out.trans (if_neg hz))
            clear HR2
            by_cases hx1 : x1 = -1
            · have HRX := Lib.hid (HR3.out.trans (if_pos (Or.inl hx1)))
              clear HR3
              go_wp2_with (go_at_call 32; refine (HAB.out _ HI8.out).mono ?_; rintro e w9 ⟨rfl, hf9, hk9⟩; have hI9 := (HI8.out.frm hf9 hk9).alloc (.cells #[.int .i64 z1, .int .i64 z2] 47); have v0 := ((HB8.out.kn HI8.out.kn hf9).alloc (.cells #[.int .i64 z1, .int .i64 z2] 47)).cell 0; have q0 := hI9.x0; have q1 := hI9.x1_; have qz0 := hI9.bb.frozen 0; have qz1 := hI9.bb.frozen 1; simp only [List.getElem?_toArray, List.getElem?_cons_zero, List.getElem?_cons_succ] at v0; have HI9 := Lib.hid hI9; clear hI9 hf9 hk9)
              go_roundw
              case rel => exact ⟨k + 1, wk + Y, (wk + Y + y1 + z1, (k : Int)), by omega, by omega, by go_num, rfl, HN.out (wk + Y + y1 + z1, (k : Int)) _ HRX.out (HI9.out.best _ _)⟩
              case measure => simp [intOf]; omega
            · have hx1b : (x1 == -1) = false := by simpa using hx1
              by_cases hx2 : wk + Y + y1 + z1 < x1
              · have HRX := Lib.hid (HR3.out.trans (if_pos (Or.inr hx2)))
                clear HR3
                go_wp2_with (go_at_call 32; refine (HAB.out _ HI8.out).mono ?_; rintro e w9 ⟨rfl, hf9, hk9⟩; have hI9 := (HI8.out.frm hf9 hk9).alloc (.cells #[.int .i64 z1, .int .i64 z2] 47); have v0 := ((HB8.out.kn HI8.out.kn hf9).alloc (.cells #[.int .i64 z1, .int .i64 z2] 47)).cell 0; have q0 := hI9.x0; have q1 := hI9.x1_; have qz0 := hI9.bb.frozen 0; have qz1 := hI9.bb.frozen 1; simp only [List.getElem?_toArray, List.getElem?_cons_zero, List.getElem?_cons_succ] at v0; have HI9 := Lib.hid hI9; clear hI9 hf9 hk9)
                go_roundw
                case rel => exact ⟨k + 1, wk + Y, (wk + Y + y1 + z1, (k : Int)), by omega, by omega, by go_num, rfl, HN.out (wk + Y + y1 + z1, (k : Int)) _ HRX.out (HI9.out.best _ _)⟩
                case measure => simp [intOf]; omega
              · have HRX := Lib.hid (HR3.out.trans (if_neg (fun h => h.elim hx1 hx2)))
                have hx2b : decide (wk + Y + y1 + z1 < x1) = false := decide_eq_false hx2
                clear HR3
                go_wp2_with (go_at_call 32; refine (HAB.out _ HI8.out).mono ?_; rintro e w9 ⟨rfl, hf9, hk9⟩; have hI9 := (HI8.out.frm hf9 hk9).alloc (.cells #[.int .i64 z1, .int .i64 z2] 47); have v0 := ((HB8.out.kn HI8.out.kn hf9).alloc (.cells #[.int .i64 z1, .int .i64 z2] 47)).cell 0; have q0 := hI9.x0; have q1 := hI9.x1_; have qz0 := hI9.bb.frozen 0; have qz1 := hI9.bb.frozen 1; simp only [List.getElem?_toArray, List.getElem?_cons_zero, List.getElem?_cons_succ] at v0; have HI9 := Lib.hid hI9; clear hI9 hf9 hk9)
                go_roundw
                case rel => exact ⟨k + 1, wk + Y, (x1, x2), by omega, by omega, by go_num, rfl, HN.out (x1, x2) _ HRX.out HI9.out⟩
                case measure => simp [intOf]; omega
      · rw [decide_eq_false hs] at HST
        have HX := Lib.hid (HJ.out.eq.trans (loop_stop (fun h => hs h.2)))
        clear hs
        go_wp2_with (go_at_call 52; refine HST.out.mono ?_; rintro e w1 ⟨rfl, hb1⟩; have hI1 := HI.out.below hb1; have q0 := hI1.x0; have q1 := hI1.x1_; have q2 := hI1.a0; have q3 := hI1.a1; have qz0 := hI1.ba.frozen 0; have qz1 := hI1.ba.frozen 1; have HI1 := Lib.hid hI1; clear hb1 hI1)
        refine bodyPost_ret (v := .agg #[.int .i64 x.1, .int .i64 x.2]) (by simp [results, Try.f45, go_sem, q2, q3, qz0, qz1]) rfl ?_
        exact HI1.out.ret HX.out
    · have HX := Lib.hid (hJ.eq.trans (loop_stop (fun h => hlt h.1)))
      have hlt' : ¬ (k : Int) < (r : Int) := by omega
      have q0 := hI.x0; have q1 := hI.x1_; have q2 := hI.a0; have q3 := hI.a1; have qz0 := hI.ba.frozen 0; have qz1 := hI.ba.frozen 1
      have HI := Lib.hid hI
      clear hI hJ hlt
      go_wp2_with fail
      refine bodyPost_ret (v := .agg #[.int .i64 x.1, .int .i64 x.2]) (by simp [results, Try.f45, go_sem, q2, q3, qz0, qz1]) rfl ?_
      exact HI.out.ret HX.out
end Go.Proofs.Ytiejdbdbafmccaa
/- part ChAsk -/
namespace Go.Proofs.Ytiejdbdbafmccaa
open Go.RowKit Go.Proofs.YtiejdbdbafmccaaW.PrintLast
structure AkI (w : World) (g mp b0 o0 c0 b1 o1 c1 : Nat) (ws cs : List Int) (l r : Nat) (m : Int) (wr : World) : Prop where
  s0 : SV w g mp b0 o0 c0 b1 o1 c1 ws cs
  k0 : Kn w mp ws cs
  kn : Kn wr mp ws cs
  bp : Blk wr w.heap.size 59 #[.int .i64 (l : Int), .int .i64 (r : Int), .int .i64 m]
  ba : Blk wr (w.heap.size + 1) 47 #[.int .i64 0, .int .i64 0]
  fr : Frm [some mp] w wr
section
variable {w wr w' : World} {g mp b0 o0 c0 b1 o1 c1 : Nat} {ws cs : List Int} {l r : Nat} {m : Int}
theorem AkI.sv (h : AkI w g mp b0 o0 c0 b1 o1 c1 ws cs l r m wr) : SV wr g mp b0 o0 c0 b1 o1 c1 ws cs := h.s0.frm h.k0 h.fr
theorem AkI.below (h : AkI w g mp b0 o0 c0 b1 o1 c1 ws cs l r m wr) (hb : Below wr.heap.size wr w') : AkI w g mp b0 o0 c0 b1 o1 c1 ws cs l r m w' :=
  ⟨h.s0, h.k0, h.kn.below hb (Nat.le_refl _), h.bp.below hb h.bp.lt, h.ba.below hb h.ba.lt, h.fr.thenBelow hb⟩
theorem AkI.frm (h : AkI w g mp b0 o0 c0 b1 o1 c1 ws cs l r m wr) (hb : Frm [some mp] wr w') (hk : Kn w' mp ws cs) : AkI w g mp b0 o0 c0 b1 o1 c1 ws cs l r m w' :=
  ⟨h.s0, h.k0, hk, h.bp.kn h.kn hb, h.ba.kn h.kn hb, h.fr.trans hb⟩
theorem AkI.ret (h : AkI w g mp b0 o0 c0 b1 o1 c1 ws cs l r m wr) (a : Int × Int) : AskP w mp ws cs a (.returned (.agg #[.int .i64 a.1, .int .i64 a.2])) ((wr.setCell ⟨w.heap.size + 1, 0, none⟩ (.int .i64 a.1)).setCell ⟨w.heap.size + 1, 1, none⟩ (.int .i64 a.2)) := by
  have hne := h.kn.ne h.ba
  have n3 : w.heap.size ≤ w.heap.size + 1 := by omega
  exact ⟨rfl, (h.fr.setCell (p := ⟨w.heap.size + 1, 0, none⟩) (Or.inr n3) _).setCell (p := ⟨w.heap.size + 1, 1, none⟩) (Or.inr n3) _, (h.kn.cell (p := ⟨w.heap.size + 1, 0, none⟩) hne _).cell (p := ⟨w.heap.size + 1, 1, none⟩) hne _⟩
theorem AkI.drew (h : AkI w g mp b0 o0 c0 b1 o1 c1 ws cs l r m wr) : AkI w g mp b0 o0 c0 b1 o1 c1 ws cs l r m wr.drew := h.below (Below.refl _ _).drew
theorem AkI.alloc (h : AkI w g mp b0 o0 c0 b1 o1 c1 ws cs l r m wr) (o : Obj) : AkI w g mp b0 o0 c0 b1 o1 c1 ws cs l r m (wr.alloc o) := h.below ((Below.refl _ _).alloc (Nat.le_refl _) _)
theorem AkI.pair (h : AkI w g mp b0 o0 c0 b1 o1 c1 ws cs l r m wr) (t : TypeId) (u1 u2 : Value) : AkI w g mp b0 o0 c0 b1 o1 c1 ws cs l r m (((wr.alloc (.cells #[.int .i64 0, .int .i64 0] t)).setCell ⟨wr.heap.size, 0, none⟩ u1).setCell ⟨wr.heap.size, 1, none⟩ u2) := h.below (below_pair _ _ _ _)
theorem AkI.p0 (h : AkI w g mp b0 o0 c0 b1 o1 c1 ws cs l r m wr) : wr.cell? ⟨w.heap.size, 0, none⟩ = some (.int .i64 (l : Int)) := h.bp.cell 0
theorem AkI.p1 (h : AkI w g mp b0 o0 c0 b1 o1 c1 ws cs l r m wr) : wr.cell? ⟨w.heap.size, 1, none⟩ = some (.int .i64 (r : Int)) := h.bp.cell 1
theorem AkI.p2 (h : AkI w g mp b0 o0 c0 b1 o1 c1 ws cs l r m wr) : wr.cell? ⟨w.heap.size, 2, none⟩ = some (.int .i64 m) := h.bp.cell 2
theorem AkI.f3 (h : AkI w g mp b0 o0 c0 b1 o1 c1 ws cs l r m wr) : wr.cell? ⟨g, 3, none⟩ = some (.map (some mp)) := h.sv.blk.cell 3
theorem AkI.a0 (h : AkI w g mp b0 o0 c0 b1 o1 c1 ws cs l r m wr) : wr.cell? ⟨w.heap.size + 1, 0, none⟩ = some (.int .i64 0) := h.ba.cell 0
theorem AkI.a1 (h : AkI w g mp b0 o0 c0 b1 o1 c1 ws cs l r m wr) : wr.cell? ⟨w.heap.size + 1, 1, none⟩ = some (.int .i64 0) := h.ba.cell 1
theorem AkI.lt (h : AkI w g mp b0 o0 c0 b1 o1 c1 ws cs l r m wr) : w.heap.size + 1 < wr.heap.size := h.ba.lt
end
theorem frm_setBlock (w : World) (b : Nat) (o : Obj) : Frm [some b] w (ChangeMaps.setBlock w b o) := by
  refine ⟨rfl, rfl, rfl, by simp [ChangeMaps.setBlock], fun k hk hn => ?_⟩
  have hne : b ≠ k := fun e => hn (by simp [e])
  simp only [ChangeMaps.setBlock]
  exact Array.getElem?_setIfInBounds_ne hne
set_option maxRecDepth 100000 in
set_option maxHeartbeats 4000000 in
theorem ask_step (d : Nat) (IH : AskC d) : AskC (d + 1) := by
  intro w g mp b0 o0 c0 b1 o1 c1 ws cs l r m h hk ht hl hr hd hm hm2
  have hhi := ht.hi
  have HSP := Lib.hid fun W (hW : SV W g mp b0 o0 c0 b1 o1 c1 ws cs) (hK : Kn W mp ws cs) (h1 : l + 1 < r) => split_any d IH W g mp b0 o0 c0 b1 o1 c1 ws cs l r m hW hK ht h1 hr hd hm hm2
  have HON := Lib.hid fun W (hW : SV W g mp b0 o0 c0 b1 o1 c1 ws cs) => one_any W g mp b0 o0 c0 b1 o1 c1 ws cs hW ht l r m hl hr (by omega) (by omega)
  have hpk : Pk l r m := ⟨by omega, by omega, by omega, by omega⟩
  obtain ⟨W, hW⟩ : ∃ W, W = (w.alloc (.cells #[.int .i64 (l : Int), .int .i64 (r : Int), .int .i64 m] 59)).alloc (.cells #[.int .i64 0, .int .i64 0] 47) := ⟨_, rfl⟩
  have hA : AkI w g mp b0 o0 c0 b1 o1 c1 ws cs l r m W := by
    have hb : Below w.heap.size w W := by rw [hW]; exact ((Below.refl _ _).alloc (Nat.le_refl _) _).alloc (by simp) _
    have e1 : (w.alloc (.cells #[.int .i64 (l : Int), .int .i64 (r : Int), .int .i64 m] 59)).heap.size = w.heap.size + 1 := by simp
    refine ⟨h, hk, hk.below hb (Nat.le_refl _), by rw [hW]; exact (Blk.new _ _ _).alloc _, ?_, Frm.of_below hb⟩
    have q := Blk.new (w.alloc (.cells #[.int .i64 (l : Int), .int .i64 (r : Int), .int .i64 m] 59)) 47 #[.int .i64 0, .int .i64 0]
    rw [e1] at q
    rw [hW]
    exact q
  have g1 : (0 : Int) ≤ (l : Int) := by omega
  have g2 : (l : Int) ≤ 64 := by omega
  have g3 : (r : Int) ≤ 64 := by omega
  have HPK := Lib.hid hpk
  have HL := Lib.hid hl
  have p0 := hA.p0
  have p1 := hA.p1
  have p2 := hA.p2
  have HA := Lib.hid hA
  clear h hk ht hr hd hm hm2 hhi hpk hA IH hl
  by_cases hq : r = l + 1
  · have HX := Lib.hid (ans_one (ws := ws) (cs := cs) (m := m) hq)
    have hq' : (r : Int) = (l : Int) + 1 := by omega
    have HC := Lib.hid (HON.out W HA.out.sv)
    simp only [kv, av] at HC
    rw [← HX.out] at HC
    clear HX HON HSP
    generalize ans ws cs l r m = a at *
    obtain ⟨y1, y2⟩ := a
    have hqb : ((r : Int) == (l : Int) + 1) = true := by simpa using hq'
    clear hq hq'
    have HW := Lib.hid hW
    clear hW
    go_enter Try.func32, Try.ntmps32
    go_wp2_with (go_at_call 44; rw [← HW.out]; refine HC.out.mono ?_; rintro e w1 ⟨rfl, hb1⟩; have hA1 := HA.out.below hb1; have q2 := hA1.a0; have q3 := hA1.a1; have qz0 := hA1.ba.frozen 0; have qz1 := hA1.ba.frozen 1; have HA1 := Lib.hid hA1; clear hb1 hA1)
    refine bodyPost_ret (v := .agg #[.int .i64 y1, .int .i64 y2]) (by simp [results, Try.f32, go_sem, q2, q3, qz0, qz1]) rfl ?_
    exact HA1.out.ret (y1, y2)
  · have hqb : ((r : Int) == (l : Int) + 1) = false := by
      have : ¬ (r : Int) = (l : Int) + 1 := by omega
      simpa using this
    have HQ := Lib.hid hq
    obtain ⟨es, ck, hes, hmo⟩ := HA.out.kn
    obtain ⟨hit, a, h1, h2⟩ := memo_look hmo mp ck l r m HPK.out
    have HES := Lib.hid hes
    have HHT := Lib.hid h1
    obtain ⟨y1, y2⟩ := a
    simp only [kv, av] at h2
    have HLA : Hid (∀ o, (Instr.lookup 55 (.map (some mp)) (.agg #[.int .i64 (l : Int), .int .i64 (r : Int), .int .i64 m]) true).run Try.prog (W.alloc o).drew = .ok (.tuple #[.agg #[.int .i64 y1, .int .i64 y2], .bool hit]) (W.alloc o).drew) := Lib.hid fun o =>
      h2 _ ((Below.heap_alloc W o mp (Array.getElem?_eq_some_iff.1 hes).1).trans hes)
    have HLK := Lib.hid h2
    have HW := Lib.hid hW
    clear hW hq hes hmo h1 h2 HON
    go_enter Try.func32, Try.ntmps32
    go_wp2_with fail
    rw [← HW.out]
    refine start_ (n := 12) (S := fun w' => w'.cell? ⟨g, 3, none⟩ = some (.map (some mp)) ∧ w'.cell? ⟨w.heap.size, 0, none⟩ = some (.int .i64 (l : Int)) ∧ w'.cell? ⟨w.heap.size, 1, none⟩ = some (.int .i64 (r : Int)) ∧ w'.cell? ⟨w.heap.size, 2, none⟩ = some (.int .i64 m) ∧ (Instr.lookup 55 (.map (some mp)) (.agg #[.int .i64 (l : Int), .int .i64 (r : Int), .int .i64 m]) true).run Try.prog w' = .ok (.tuple #[.agg #[.int .i64 y1, .int .i64 y2], .bool hit]) w') (ds := [10]) #[false, false, false, false, false, false, false, false, false, false, false, false] (by kernel_rfl) rfl rfl ⟨HA.out.drew.f3, HA.out.drew.p0, HA.out.drew.p1, HA.out.drew.p2, (HLK.out _ HES.out)⟩ (fun hHeld => ?_)
    refine pure_ (i := 0) (N := some 18) (v := ?_) (a' := ?_) #[true, false, false, false, false, false, false, false, false, false, false, false] rfl rfl (by kernel_rfl) (fun _ _ _ h => h) (Or.inl ⟨by rfl, ?_⟩) ?_ ?_
    rotate_left
    · intro w'
      go_simp
      with_reducible rfl
    rotate_left
    · simp only [Act.put, List.setIfInBounds_toArray, List.set_cons_zero, List.set_cons_succ, i64_w, i32_w]
      rfl
    refine pure_ (i := 1) (N := some 19) (v := ?_) (a' := ?_) #[true, true, false, false, false, false, false, false, false, false, false, false] rfl rfl (by kernel_rfl) (fun _ _ _ h => h) (Or.inl ⟨by rfl, ?_⟩) ?_ ?_
    rotate_left
    · intro w'
      go_simp
      with_reducible rfl
    rotate_left
    · simp only [Act.put, List.setIfInBounds_toArray, List.set_cons_zero, List.set_cons_succ, i64_w, i32_w]
      rfl
    refine pure_ (i := 2) (N := some 20) (v := ?_) (a' := ?_) #[true, true, true, false, false, false, false, false, false, false, false, false] rfl rfl (by kernel_rfl) (fun _ _ _ h => h) (Or.inl ⟨by rfl, ?_⟩) ?_ ?_
    rotate_left
    · intro w'
      go_simp
      with_reducible rfl
    rotate_left
    · simp only [Act.put, List.setIfInBounds_toArray, List.set_cons_zero, List.set_cons_succ, i64_w, i32_w]
      rfl
    refine take_ (i := 3) (N := some 21) (v := ?_) (a' := ?_) #[true, true, true, true, false, false, false, false, false, false, false, false] rfl rfl (by kernel_rfl) (fun _ _ _ h => h) (Or.inl ⟨by rfl, ?_⟩) hHeld ?_ ?_
    rotate_left
    · rintro w' ⟨s0, s1, s2, s3, s4⟩
      go_simp
      with_reducible rfl
    rotate_left
    · simp only [Act.put, List.setIfInBounds_toArray, List.set_cons_zero, List.set_cons_succ, i64_w, i32_w]
      rfl
    refine take_ (i := 4) (N := some 22) (v := ?_) (a' := ?_) #[true, true, true, true, true, false, false, false, false, false, false, false] rfl rfl (by kernel_rfl) (fun _ _ _ h => h) (Or.inl ⟨by rfl, ?_⟩) hHeld ?_ ?_
    rotate_left
    · rintro w' ⟨s0, s1, s2, s3, s4⟩
      go_simp
      with_reducible rfl
    rotate_left
    · simp only [Act.put, List.setIfInBounds_toArray, List.set_cons_zero, List.set_cons_succ, i64_w, i32_w]
      rfl
    refine take_ (i := 5) (N := some 23) (v := ?_) (a' := ?_) #[true, true, true, true, true, true, false, false, false, false, false, false] rfl rfl (by kernel_rfl) (fun _ _ _ h => h) (Or.inl ⟨by rfl, ?_⟩) hHeld ?_ ?_
    rotate_left
    · rintro w' ⟨s0, s1, s2, s3, s4⟩
      go_simp
      with_reducible rfl
    rotate_left
    · simp only [Act.put, List.setIfInBounds_toArray, List.set_cons_zero, List.set_cons_succ, i64_w, i32_w]
      rfl
    refine pure_ (i := 6) (N := some 17) (v := ?_) (a' := ?_) #[true, true, true, true, true, true, true, false, false, false, false, false] rfl rfl (by kernel_rfl) (fun _ _ _ h => h) (Or.inl ⟨by rfl, ?_⟩) ?_ ?_
    rotate_left
    · intro w'
      go_simp
      with_reducible rfl
    rotate_left
    · simp only [Act.put, List.setIfInBounds_toArray, List.set_cons_zero, List.set_cons_succ, i64_w, i32_w]
      rfl
    refine pure_ (i := 7) (N := some 24) (v := ?_) (a' := ?_) #[true, true, true, true, true, true, true, true, false, false, false, false] rfl rfl (by kernel_rfl) (fun _ _ _ h => h) (Or.inl ⟨by rfl, ?_⟩) ?_ ?_
    rotate_left
    · intro w'
      go_simp
      with_reducible rfl
    rotate_left
    · simp only [Act.put, List.setIfInBounds_toArray, List.set_cons_zero, List.set_cons_succ, i64_w, i32_w]
      rfl
    refine pure_ (i := 8) (N := some 25) (v := ?_) (a' := ?_) #[true, true, true, true, true, true, true, true, true, false, false, false] rfl rfl (by kernel_rfl) (fun _ _ _ h => h) (Or.inl ⟨by rfl, ?_⟩) ?_ ?_
    rotate_left
    · intro w'
      go_simp
      with_reducible rfl
    rotate_left
    · simp only [Act.put, List.setIfInBounds_toArray, List.set_cons_zero, List.set_cons_succ, i64_w, i32_w]
      rfl
    refine one_ (i := 9) (N := some 5) #[true, true, true, true, true, true, true, true, true, true, false, false] rfl rfl (by kernel_rfl) (by decide) (fun K hK => ?_)
    refine value_ (w1 := ?_) (v := ?_) (by rfl) rfl ?_ ?_
    rotate_left 2
    · go_simp
      constructor
      · rfl
      · rfl
    refine hK.out _ _ ⟨(HA.out.alloc _).drew.f3, (HA.out.alloc _).drew.p0, (HA.out.alloc _).drew.p1, (HA.out.alloc _).drew.p2, (HLA.out _)⟩ (fun hHeld => ?_)
    clear hK K
    refine norm_ (a' := ?_) ?_ ?_
    rotate_left
    · show Act.put _ (some 5) _ = _
      simp only [Act.put, List.setIfInBounds_toArray, List.set_cons_zero, List.set_cons_succ, i64_w, i32_w]
      rfl
    refine last_ (i := 10) (N := none) #[true, true, true, true, true, true, true, true, true, true, true, false] rfl rfl (by kernel_rfl) (by decide) (fun K hK => ?_)
    refine skip_ (w1 := ?_) (by rfl) rfl ?_ ?_
    rotate_left
    · go_simp
      rfl
    refine hK.out _ _ ?_
    clear hK K
    refine pure_ (i := 11) (N := some 6) (v := ?_) (a' := ?_) #[true, true, true, true, true, true, true, true, true, true, true, true] rfl rfl (by kernel_rfl) (fun _ _ _ h => h) (Or.inl ⟨by rfl, ?_⟩) ?_ ?_
    rotate_left
    · intro w'
      go_simp
      with_reducible rfl
    rotate_left
    · simp only [Act.put, List.setIfInBounds_toArray, List.set_cons_zero, List.set_cons_succ, i64_w, i32_w]
      rfl
    refine done_ (by kernel_rfl) ?_
    obtain ⟨W2, hW2⟩ : ∃ W2, W2 = (W.alloc (.cells #[.int .i64 y1, .int .i64 y2] 47)).drew := ⟨_, rfl⟩
    rw [← hW2]
    have hA2 : AkI w g mp b0 o0 c0 b1 o1 c1 ws cs l r m W2 := by rw [hW2]; exact (HA.out.alloc _).drew
    have hB2 : Blk W2 W.heap.size 47 #[.int .i64 y1, .int .i64 y2] := by rw [hW2]; exact (Blk.new _ _ _).drew
    clear hW2 hHeld p0 p1 p2 HES HLA HLK HW
    have v0 := hB2.cell 0
    have v1 := hB2.cell 1
    have p0 := hA2.p0
    have p1 := hA2.p1
    have p2 := hA2.p2
    have q2 := hA2.a0; have q3 := hA2.a1; have qz0 := hA2.ba.frozen 0; have qz1 := hA2.ba.frozen 1
    simp only [List.getElem?_toArray, List.getElem?_cons_zero, List.getElem?_cons_succ] at v0 v1
    have HA2 := Lib.hid hA2
    clear hA2 hB2
    cases hit with
    | true =>
      have HX := Lib.hid (HHT.out rfl)
      clear HHT HSP
      go_wp2_with fail
      refine bodyPost_ret (v := .agg #[.int .i64 y1, .int .i64 y2]) (by simp [results, Try.f32, go_sem, q2, q3, qz0, qz1]) rfl ?_
      rw [← HX.out]
      exact HA2.out.ret (y1, y2)
    | false =>
      have HPU := Lib.hid fun (W' : World) es ck (h1 : W'.heap[mp]? = some (.map es ck)) (h2 : MemoOk ws cs es) => memo_put h2 mp ck l r m HPK.out W' h1
      have HC := Lib.hid (HSP.out W2 HA2.out.sv HA2.out.kn (by have := HL.out; have := HQ.out; omega))
      clear HHT HSP v0 v1 q2 q3 qz0 qz1
      generalize ans ws cs l r m = a at *
      obtain ⟨z1, z2⟩ := a
      simp only [kv, av] at HPU
      go_wp2_with (go_at_call 45; refine HC.out.mono ?_; rintro e w3 ⟨rfl, hf3, hk3⟩; have HA3 := Lib.hid (HA2.out.frm hf3 hk3); clear hf3 hk3)
      obtain ⟨W3, hW3⟩ : ∃ W3, W3 = w3.alloc (.cells #[.int .i64 z1, .int .i64 z2] 47) := ⟨_, rfl⟩
      rw [← hW3]
      have hA3 : AkI w g mp b0 o0 c0 b1 o1 c1 ws cs l r m W3 := by rw [hW3]; exact HA3.out.alloc _
      have hB3 : Blk W3 w3.heap.size 47 #[.int .i64 z1, .int .i64 z2] := by rw [hW3]; exact Blk.new _ _ _
      clear hW3 p0 p1 p2 HA2 HC
      obtain ⟨es2, ck2, hes2, hmo2⟩ := hA3.kn
      obtain ⟨es3, ck3, hmo3, hup⟩ := HPU.out W3.drew es2 ck2 hes2 hmo2
      have HUP := hup
      clear hup
      have HB3 := Lib.hid hB3
      have HA4 := Lib.hid hA3
      have HML := Lib.hid (Array.getElem?_eq_some_iff.1 hes2).1
      have HMO := Lib.hid hmo3
      have v0 := hB3.cell 0
      have v1 := hB3.cell 1
      simp only [List.getElem?_toArray, List.getElem?_cons_zero, List.getElem?_cons_succ] at v0 v1
      clear hA3 hB3 hes2 hmo2 hmo3 HPU
      refine start_ (n := 7) (S := fun w' => w'.cell? ⟨g, 3, none⟩ = some (.map (some mp)) ∧ w'.cell? ⟨w.heap.size, 0, none⟩ = some (.int .i64 (l : Int)) ∧ w'.cell? ⟨w.heap.size, 1, none⟩ = some (.int .i64 (r : Int)) ∧ w'.cell? ⟨w.heap.size, 2, none⟩ = some (.int .i64 m) ∧ w'.cell? ⟨w3.heap.size, 0, none⟩ = some (.int .i64 z1) ∧ w'.cell? ⟨w3.heap.size, 1, none⟩ = some (.int .i64 z2)) (ds := [6]) #[false, false, false, false, false, false, false] (by kernel_rfl) rfl rfl ⟨HA4.out.drew.f3, HA4.out.drew.p0, HA4.out.drew.p1, HA4.out.drew.p2, v0, v1⟩ (fun hHeld => ?_)
      refine pure_ (i := 0) (N := some 31) (v := ?_) (a' := ?_) #[true, false, false, false, false, false, false] rfl rfl (by kernel_rfl) (fun _ _ _ h => h) (Or.inl ⟨by rfl, ?_⟩) ?_ ?_
      rotate_left
      · intro w'
        go_simp
        with_reducible rfl
      rotate_left
      · simp only [Act.put, List.setIfInBounds_toArray, List.set_cons_zero, List.set_cons_succ, i64_w, i32_w]
        rfl
      refine pure_ (i := 1) (N := some 32) (v := ?_) (a' := ?_) #[true, true, false, false, false, false, false] rfl rfl (by kernel_rfl) (fun _ _ _ h => h) (Or.inl ⟨by rfl, ?_⟩) ?_ ?_
      rotate_left
      · intro w'
        go_simp
        with_reducible rfl
      rotate_left
      · simp only [Act.put, List.setIfInBounds_toArray, List.set_cons_zero, List.set_cons_succ, i64_w, i32_w]
        rfl
      refine pure_ (i := 2) (N := some 33) (v := ?_) (a' := ?_) #[true, true, true, false, false, false, false] rfl rfl (by kernel_rfl) (fun _ _ _ h => h) (Or.inl ⟨by rfl, ?_⟩) ?_ ?_
      rotate_left
      · intro w'
        go_simp
        with_reducible rfl
      rotate_left
      · simp only [Act.put, List.setIfInBounds_toArray, List.set_cons_zero, List.set_cons_succ, i64_w, i32_w]
        rfl
      refine take_ (i := 3) (N := some 34) (v := ?_) (a' := ?_) #[true, true, true, true, false, false, false] rfl rfl (by kernel_rfl) (fun _ _ _ h => h) (Or.inl ⟨by rfl, ?_⟩) hHeld ?_ ?_
      rotate_left
      · rintro w' ⟨s0, s1, s2, s3, s4, s5⟩
        go_simp
        with_reducible rfl
      rotate_left
      · simp only [Act.put, List.setIfInBounds_toArray, List.set_cons_zero, List.set_cons_succ, i64_w, i32_w]
        rfl
      refine take_ (i := 4) (N := some 35) (v := ?_) (a' := ?_) #[true, true, true, true, true, false, false] rfl rfl (by kernel_rfl) (fun _ _ _ h => h) (Or.inl ⟨by rfl, ?_⟩) hHeld ?_ ?_
      rotate_left
      · rintro w' ⟨s0, s1, s2, s3, s4, s5⟩
        go_simp
        with_reducible rfl
      rotate_left
      · simp only [Act.put, List.setIfInBounds_toArray, List.set_cons_zero, List.set_cons_succ, i64_w, i32_w]
        rfl
      refine take_ (i := 5) (N := some 36) (v := ?_) (a' := ?_) #[true, true, true, true, true, true, false] rfl rfl (by kernel_rfl) (fun _ _ _ h => h) (Or.inl ⟨by rfl, ?_⟩) hHeld ?_ ?_
      rotate_left
      · rintro w' ⟨s0, s1, s2, s3, s4, s5⟩
        go_simp
        with_reducible rfl
      rotate_left
      · simp only [Act.put, List.setIfInBounds_toArray, List.set_cons_zero, List.set_cons_succ, i64_w, i32_w]
        rfl
      refine last_ (i := 6) (N := none) #[true, true, true, true, true, true, true] rfl rfl (by kernel_rfl) (by decide) (fun K hK => ?_)
      refine skip_ (w1 := ?_) (by rfl) rfl ?_ ?_
      rotate_left
      · go_simp
        rfl
      refine hK.out _ _ ?_
      clear hK K
      refine done_ (by kernel_rfl) ?_
      obtain ⟨W4, hW4⟩ : ∃ W4, W4 = ChangeMaps.setBlock W3.drew mp (.map es3 ck3) := ⟨_, rfl⟩
      rw [← hW4]
      have hf4 : Frm [some mp] W3 W4 := by rw [hW4]; exact (Frm.refl _ _).drew.trans (frm_setBlock _ _ _)
      have hk4 : Kn W4 mp ws cs := by rw [hW4]; exact ⟨es3, ck3, by simp only [ChangeMaps.setBlock]; exact Array.getElem?_setIfInBounds_self_of_lt HML.out, HMO.out⟩
      have hA5 := HA4.out.frm hf4 hk4
      have hB5 := HB3.out.kn HA4.out.kn hf4
      clear hW4 hf4 hk4 hHeld HUP v0 v1 HA3 HA4 HB3 HML HMO
      have v0 := hB5.cell 0
      have v1 := hB5.cell 1
      have q2 := hA5.a0; have q3 := hA5.a1; have qz0 := hA5.ba.frozen 0; have qz1 := hA5.ba.frozen 1
      simp only [List.getElem?_toArray, List.getElem?_cons_zero, List.getElem?_cons_succ] at v0 v1
      have HA5 := Lib.hid hA5
      clear hA5 hB5
      go_wp2_with fail
      refine bodyPost_ret (v := .agg #[.int .i64 z1, .int .i64 z2]) (by simp [results, Try.f32, go_sem, q2, q3, qz0, qz1]) rfl ?_
      exact HA5.out.ret (z1, z2)
theorem ask_any : ∀ d, AskC d
  | 0 => fun _ _ _ _ _ _ _ _ _ _ _ _ _ _ _ _ _ h1 _ h2 => by omega
  | d + 1 => ask_step d (ask_any d)
end Go.Proofs.Ytiejdbdbafmccaa
/- part PChx0 -/
namespace Go.Proofs.Ytiejdbdbafmccaa.PCh
open Go.RowKit Go.Proofs.YtiejdbdbafmccaaW.PrintWords Go.Proofs.YtiejdbdbafmccaaW.PrintLast Go.Proofs.YtiejdbdbafmccaaW.PrintMore
attribute [local go_sem] max2_int min2_int max_two min_two max_three min_three max_four min_four
set_option linter.unusedVariables false
set_option linter.unusedSimpArgs false
def errW : Option Int → Value
  | none => .nilIface
  | some c => .iface 0 (.int .i64 c)
theorem errW_none : errW none = .nilIface := rfl
theorem errW_some (c : Int) : errW (some c) = .iface 0 (.int .i64 c) := rfl
theorem info3 : (Try.prog.info? 3).map (fun i => (i.zero, i.size, i.bytes)) = some (some (.int .i64 0), 1, 8) := by kernel_rfl
def rd_L1 (xs : List (List Int)) (i : Int) : (List Int) := xs.getD i.toNat ([] : List Int)
theorem at_L1 {w : World} {A : Option Addr} {n : Nat} {xs : List (List Int)} (h : Kd.C (Kd.slice 3 (Kd.int .i64)) w A n xs) (i : Int) (h0 : 0 ≤ i) (h1 : i < n) : ∃ ad A0 c0, A = some ad ∧ w.cell? (ad.add i.toNat) = some (.slice A0 (rd_L1 xs i).length c0) ∧ (rd_L1 xs i).length ≤ c0 ∧ (Kd.int .i64).C w A0 (rd_L1 xs i).length (rd_L1 xs i) := by
  obtain ⟨ad, c, e, _, hK, hc0⟩ := Kd.C_get h ([] : List Int) i h0 h1
  have hc : ∀ j u, c[j]? = some u → w.cell? (ad.add (i.toNat * 1 + j)) = some u := hc0
  obtain ⟨A0, c0, rfl, l0, g0⟩ := hK
  exact ⟨ad, A0, c0, e, by have hq := hc 0 _ rfl; rwa [Nat.mul_one, Nat.add_zero] at hq, l0, g0⟩
structure S24 where
  f0 : (List Int)
  f1 : (List Int)
def z24 : S24 := ⟨([] : List Int), ([] : List Int)⟩
def k24 : Kd S24 := Kd.iso (Kd.pair (Kd.slice 3 (Kd.int .i64)) (Kd.slice 3 (Kd.int .i64))) (fun x : S24 => (x.f0, x.f1))
theorem k24_open {w : World} {x : S24} {cs : List Value} (h : k24.K w x cs) : ∃ A0 c0 A1 c1, cs = [.slice A0 x.f0.length c0, .slice A1 x.f1.length c1] ∧ x.f0.length ≤ c0 ∧ (Kd.int .i64).C w A0 x.f0.length x.f0 ∧ x.f1.length ≤ c1 ∧ (Kd.int .i64).C w A1 x.f1.length x.f1 := by
  obtain ⟨_, _, rfl, ⟨A0, c0, rfl, l0, g0⟩, ⟨A1, c1, rfl, l1, g1⟩⟩ := h
  exact ⟨A0, c0, A1, c1, rfl, l0, g0, l1, g1⟩
theorem k24_openM {w : World} {base : Nat} {ok : Nat → Prop} {x : S24} {cs : List Value} (h : k24.M w base ok x cs) : ∃ v0 v1, cs = [v0, v1] ∧ (Kd.int .i64).R 3 w base ok v0 x.f0 ∧ (Kd.int .i64).R 3 w base ok v1 x.f1 := by
  obtain ⟨_, _, rfl, ⟨v0, rfl, g0⟩, ⟨v1, rfl, g1⟩⟩ := h
  exact ⟨v0, v1, rfl, g0, g1⟩
theorem k24_mk (w : World) (x : S24) {A0 : Option Addr} {c0 : Nat} (l0 : x.f0.length ≤ c0) (g0 : (Kd.int .i64).C w A0 x.f0.length x.f0) {A1 : Option Addr} {c1 : Nat} (l1 : x.f1.length ≤ c1) (g1 : (Kd.int .i64).C w A1 x.f1.length x.f1) : k24.K w x [.slice A0 x.f0.length c0, .slice A1 x.f1.length c1] := ⟨[.slice A0 x.f0.length c0], [.slice A1 x.f1.length c1], rfl, ⟨A0, c0, rfl, l0, g0⟩, ⟨A1, c1, rfl, l1, g1⟩⟩
theorem k24_mkM (w : World) (base : Nat) (ok : Nat → Prop) (x : S24) {v0 : Value} (g0 : (Kd.int .i64).R 3 w base ok v0 x.f0) {v1 : Value} (g1 : (Kd.int .i64).R 3 w base ok v1 x.f1) : k24.M w base ok x [v0, v1] := ⟨[v0], [v1], rfl, ⟨v0, rfl, g0⟩, ⟨v1, rfl, g1⟩⟩
def rd_T24 (xs : List S24) (i : Int) : S24 := xs.getD i.toNat z24
theorem at_T24 {w : World} {A : Option Addr} {n : Nat} {xs : List S24} (h : Kd.C k24 w A n xs) (i : Int) (h0 : 0 ≤ i) (h1 : i < n) : ∃ ad A0 c0 A1 c1, A = some ad ∧ w.cell? (ad.add (i.toNat * 2)) = some (.slice A0 (rd_T24 xs i).f0.length c0) ∧ w.cell? ⟨(ad.add (i.toNat * 2)).block, (ad.add (i.toNat * 2)).off + 1, none⟩ = some (.slice A1 (rd_T24 xs i).f1.length c1) ∧ (rd_T24 xs i).f0.length ≤ c0 ∧ (Kd.int .i64).C w A0 (rd_T24 xs i).f0.length (rd_T24 xs i).f0 ∧ (rd_T24 xs i).f1.length ≤ c1 ∧ (Kd.int .i64).C w A1 (rd_T24 xs i).f1.length (rd_T24 xs i).f1 := by
  obtain ⟨ad, c, e, _, hK, hc0⟩ := Kd.C_get h z24 i h0 h1
  have hc : ∀ j u, c[j]? = some u → w.cell? (ad.add (i.toNat * 2 + j)) = some u := hc0
  obtain ⟨A0, c0, A1, c1, rfl, l0, g0, l1, g1⟩ := k24_open hK
  exact ⟨ad, A0, c0, A1, c1, e, hc 0 _ rfl, by rw [← add_field _ _ 1 (by omega)]; exact hc 1 _ rfl, l0, g0, l1, g1⟩
structure S63 where
  f0 : Int
  f1 : Int
def z63 : S63 := ⟨(0 : Int), (0 : Int)⟩
def k63 : Kd S63 := Kd.iso (Kd.pair (Kd.int .i64) (Kd.int .i64)) (fun x : S63 => (x.f0, x.f1))
theorem k63_open {w : World} {x : S63} {cs : List Value} (h : k63.K w x cs) : cs = [.int .i64 x.f0, .int .i64 x.f1] := by
  obtain ⟨_, _, rfl, rfl, rfl⟩ := h
  exact rfl
theorem k63_openM {w : World} {base : Nat} {ok : Nat → Prop} {x : S63} {cs : List Value} (h : k63.M w base ok x cs) : cs = [.int .i64 x.f0, .int .i64 x.f1] := by
  obtain ⟨_, _, rfl, rfl, rfl⟩ := h
  exact rfl
theorem k63_mk (w : World) (x : S63)  : k63.K w x [.int .i64 x.f0, .int .i64 x.f1] := ⟨[.int .i64 x.f0], [.int .i64 x.f1], rfl, rfl, rfl⟩
theorem k63_mkM (w : World) (base : Nat) (ok : Nat → Prop) (x : S63)  : k63.M w base ok x [.int .i64 x.f0, .int .i64 x.f1] := ⟨[.int .i64 x.f0], [.int .i64 x.f1], rfl, rfl, rfl⟩
def rd_T63 (xs : List S63) (i : Int) : S63 := xs.getD i.toNat z63
theorem at_T63 {w : World} {A : Option Addr} {n : Nat} {xs : List S63} (h : Kd.C k63 w A n xs) (i : Int) (h0 : 0 ≤ i) (h1 : i < n) : ∃ ad , A = some ad ∧ w.cell? (ad.add (i.toNat * 2)) = some (.int .i64 (rd_T63 xs i).f0) ∧ w.cell? ⟨(ad.add (i.toNat * 2)).block, (ad.add (i.toNat * 2)).off + 1, none⟩ = some (.int .i64 (rd_T63 xs i).f1) := by
  obtain ⟨ad, c, e, _, hK, hc0⟩ := Kd.C_get h z63 i h0 h1
  have hc : ∀ j u, c[j]? = some u → w.cell? (ad.add (i.toNat * 2 + j)) = some u := hc0
  obtain rfl := k63_open hK
  exact ⟨ad, e, hc 0 _ rfl, by rw [← add_field _ _ 1 (by omega)]; exact hc 1 _ rfl⟩
def rd_L4 (xs : List (List S63)) (i : Int) : (List S63) := xs.getD i.toNat ([] : List S63)
theorem at_L4 {w : World} {A : Option Addr} {n : Nat} {xs : List (List S63)} (h : Kd.C (Kd.slice 63 k63) w A n xs) (i : Int) (h0 : 0 ≤ i) (h1 : i < n) : ∃ ad A0 c0, A = some ad ∧ w.cell? (ad.add i.toNat) = some (.slice A0 (rd_L4 xs i).length c0) ∧ (rd_L4 xs i).length ≤ c0 ∧ k63.C w A0 (rd_L4 xs i).length (rd_L4 xs i) := by
  obtain ⟨ad, c, e, _, hK, hc0⟩ := Kd.C_get h ([] : List S63) i h0 h1
  have hc : ∀ j u, c[j]? = some u → w.cell? (ad.add (i.toNat * 1 + j)) = some u := hc0
  obtain ⟨A0, c0, rfl, l0, g0⟩ := hK
  exact ⟨ad, A0, c0, e, by have hq := hc 0 _ rfl; rwa [Nat.mul_one, Nat.add_zero] at hq, l0, g0⟩
end Go.Proofs.Ytiejdbdbafmccaa.PCh
/- part ChRight -/
namespace Go.Proofs.Ytiejdbdbafmccaa.PCh
open Go.RowKit Go.Proofs.YtiejdbdbafmccaaW.PrintWords Go.Proofs.Ytiejdbdbafmccaa
def wideB (x : Int) : Bool := decide (x < 1 ∨ 65536 < x)
def dearB (x : Int) : Bool := decide (x < 0 ∨ 1099511627776 < x)
def rightB (w c : List Int) : Bool := decide (1 ≤ c.length ∧ c.length ≤ 64 ∧ w.length = c.length + 1) && !w.any wideB && !c.any dearB
theorem rb {a b : Bool} (h : a = b) : Ending.returned (.bool a) = .returned (.bool b) := by rw [h]
structure IxP (l : List Int) (p : Int → Bool) (e : Ending) : Prop where
  ex : ∃ i : Int, e = .returned (.int .i64 i) ∧ (l.any p = true ↔ 0 ≤ i)
theorem wide_any (x : Int) (w : World) : Calls Try.prog 28 #[.int .i64 x] w fun e w' => e = .returned (.bool (wideB x)) ∧ w' = w := by
  by_cases h : x < 1
  · go_enter Try.func28, Try.ntmps28
    go_wp2
    go_ret
    exact ⟨rb (by rw [Bool.eq_iff_iff]; simp [wideB]; omega), rfl⟩
  · go_enter Try.func28, Try.ntmps28
    go_wp2
    go_ret
    exact ⟨rb (by rw [Bool.eq_iff_iff]; simp [wideB]; omega), rfl⟩
theorem saferight_any (x : Int) (w : World) : Calls Try.prog 30 #[.int .i64 x] w fun e w' => e = .returned (.bool (!dearB x)) ∧ w' = w := by
  by_cases h : x < 0
  · go_enter Try.func30, Try.ntmps30
    go_wp2
    go_ret
    exact ⟨rb (by rw [Bool.eq_iff_iff]; simp [dearB]; omega), rfl⟩
  · go_enter Try.func30, Try.ntmps30
    go_wp2
    go_ret
    exact ⟨rb (by rw [Bool.eq_iff_iff]; simp [dearB]; omega), rfl⟩
theorem dear_any (x : Int) (w : World) : Calls Try.prog 29 #[.int .i64 x] w fun e w' => e = .returned (.bool (dearB x)) ∧ w' = w := by
  go_enter Try.func29, Try.ntmps29
  go_wp2_with (go_at_call 30; refine (saferight_any _ _).mono ?_; rintro e w1 ⟨rfl, rfl⟩)
  go_ret
  exact ⟨by simp, rfl⟩
set_option maxHeartbeats 1000000 in
theorem ix_wide (A : Option Addr) (c : Nat) (l : List Int) (w : World) (hr : (Kd.int .i64).C w A l.length l) :
    Calls Try.prog 43 #[.slice A l.length c, .func (.func 28) #[] #[]] w fun e w' => IxP l wideB e ∧ w' = w := by
  have HR := Lib.hid hr
  have hm := hr.2.1
  clear hr
  go_enter Try.func43, Try.ntmps43
  go_wp2_with fail
  go_loop [8] (fun i => ∃ k : Nat, k ≤ l.length ∧ i = .int .i64 k ∧ Hid ((l.take k).any wideB = false)) (fun i => l.length - (intOf i).toNat)
  case atStart => exact ⟨0, by omega, rfl, (by simp : (l.take 0).any wideB = false)⟩
  case round =>
    obtain ⟨k, hk, rfl, HQ⟩ := hrel
    by_cases hlt : k < l.length
    · obtain ⟨b, o, rfl, hb, hc⟩ := C_at HR.out (by omega)
      have hck := hc k hlt
      have HSN := Lib.hid (List.take_succ_eq_append_getElem hlt)
      have HMM := Lib.hid (List.getElem_mem hlt)
      clear hc
      generalize l[k] = x at *
      cases hx : wideB x with
      | false =>
        have HX := Lib.hid hx
        clear hx
        go_wp2_with (go_at_call 28; refine (wide_any _ _).mono ?_; rintro e w1 ⟨rfl, rfl⟩; rw [HX.out])
        go_round
        case rel => exact ⟨k + 1, by omega, by go_num, (by rw [HSN.out, List.any_append, HQ.out]; simp [HX.out] : (l.take (k + 1)).any wideB = false)⟩
        case measure => simp [intOf]; omega
      | true =>
        have HX := Lib.hid hx
        clear hx
        go_wp2_with (go_at_call 28; refine (wide_any _ _).mono ?_; rintro e w1 ⟨rfl, rfl⟩; rw [HX.out])
        go_ret
        exact ⟨⟨_, rfl, ⟨fun _ => by omega, fun _ => List.any_eq_true.2 ⟨x, HMM.out, HX.out⟩⟩⟩, rfl⟩
    · obtain rfl : k = l.length := by omega
      have hq := HQ.out
      rw [List.take_length] at hq
      have HQ2 := Lib.hid hq
      clear HQ hq HR
      go_wp2_with fail
      go_ret
      exact ⟨⟨_, rfl, by rw [HQ2.out]; simp⟩, rfl⟩
set_option maxHeartbeats 1000000 in
theorem cf_wide (A : Option Addr) (c : Nat) (l : List Int) (w : World) (hr : (Kd.int .i64).C w A l.length l) :
    Calls Try.prog 31 #[.slice A l.length c, .func (.func 28) #[] #[]] w fun e w' => e = .returned (.bool (l.any wideB)) ∧ w' = w := by
  have HR := Lib.hid (ix_wide A c l w hr)
  clear hr
  go_enter Try.func31, Try.ntmps31
  go_wp2_with (go_at_call 43; refine HR.out.mono ?_; rintro e w1 ⟨⟨i, rfl, hi⟩, rfl⟩; have HI := Lib.hid hi; clear hi)
  go_ret
  exact ⟨rb (by rw [Bool.eq_iff_iff, HI.out]; simp), rfl⟩
set_option maxHeartbeats 1000000 in
theorem ix_dear (A : Option Addr) (c : Nat) (l : List Int) (w : World) (hr : (Kd.int .i64).C w A l.length l) :
    Calls Try.prog 43 #[.slice A l.length c, .func (.func 29) #[] #[]] w fun e w' => IxP l dearB e ∧ w' = w := by
  have HR := Lib.hid hr
  have hm := hr.2.1
  clear hr
  go_enter Try.func43, Try.ntmps43
  go_wp2_with fail
  go_loop [8] (fun i => ∃ k : Nat, k ≤ l.length ∧ i = .int .i64 k ∧ Hid ((l.take k).any dearB = false)) (fun i => l.length - (intOf i).toNat)
  case atStart => exact ⟨0, by omega, rfl, (by simp : (l.take 0).any dearB = false)⟩
  case round =>
    obtain ⟨k, hk, rfl, HQ⟩ := hrel
    by_cases hlt : k < l.length
    · obtain ⟨b, o, rfl, hb, hc⟩ := C_at HR.out (by omega)
      have hck := hc k hlt
      have HSN := Lib.hid (List.take_succ_eq_append_getElem hlt)
      have HMM := Lib.hid (List.getElem_mem hlt)
      clear hc
      generalize l[k] = x at *
      cases hx : dearB x with
      | false =>
        have HX := Lib.hid hx
        clear hx
        go_wp2_with (go_at_call 29; refine (dear_any _ _).mono ?_; rintro e w1 ⟨rfl, rfl⟩; rw [HX.out])
        go_round
        case rel => exact ⟨k + 1, by omega, by go_num, (by rw [HSN.out, List.any_append, HQ.out]; simp [HX.out] : (l.take (k + 1)).any dearB = false)⟩
        case measure => simp [intOf]; omega
      | true =>
        have HX := Lib.hid hx
        clear hx
        go_wp2_with (go_at_call 29; refine (dear_any _ _).mono ?_; rintro e w1 ⟨rfl, rfl⟩; rw [HX.out])
        go_ret
        exact ⟨⟨_, rfl, ⟨fun _ => by omega, fun _ => List.any_eq_true.2 ⟨x, HMM.out, HX.out⟩⟩⟩, rfl⟩
    · obtain rfl : k = l.length := by omega
      have hq := HQ.out
      rw [List.take_length] at hq
      have HQ2 := Lib.hid hq
      clear HQ hq HR
      go_wp2_with fail
      go_ret
      exact ⟨⟨_, rfl, by rw [HQ2.out]; simp⟩, rfl⟩
set_option maxHeartbeats 1000000 in
theorem cf_dear (A : Option Addr) (c : Nat) (l : List Int) (w : World) (hr : (Kd.int .i64).C w A l.length l) :
    Calls Try.prog 31 #[.slice A l.length c, .func (.func 29) #[] #[]] w fun e w' => e = .returned (.bool (l.any dearB)) ∧ w' = w := by
  have HR := Lib.hid (ix_dear A c l w hr)
  clear hr
  go_enter Try.func31, Try.ntmps31
  go_wp2_with (go_at_call 43; refine HR.out.mono ?_; rintro e w1 ⟨⟨i, rfl, hi⟩, rfl⟩; have HI := Lib.hid hi; clear hi)
  go_ret
  exact ⟨rb (by rw [Bool.eq_iff_iff, HI.out]; simp), rfl⟩
def chain_Chain_Right.f (l0_0 : List Int) (l0_1 : List Int) : Option Bool := some (rightB l0_0 l0_1)
set_option maxHeartbeats 2000000 in
theorem chain_Chain_Right.calls (A0_0 : Option Addr) (c0_0 : Nat) (l0_0 : List Int) (A0_1 : Option Addr) (c0_1 : Nat) (l0_1 : List Int) (r : Bool) (w : World) (hr0_0 : Kd.C (Kd.int .i64) w A0_0 l0_0.length l0_0) (hc0_0 : l0_0.length ≤ c0_0) (hr0_1 : Kd.C (Kd.int .i64) w A0_1 l0_1.length l0_1) (hc0_1 : l0_1.length ≤ c0_1) (h : chain_Chain_Right.f l0_0 l0_1 = some r) :
    Calls Try.prog 17 #[.agg #[.slice A0_0 l0_0.length c0_0, .slice A0_1 l0_1.length c0_1]] w fun e w' => e = .returned (.bool r) ∧ Below w.heap.size w w' := by
  unfold chain_Chain_Right.f at h
  injection h with h
  subst h
  have hb : Below w.heap.size w (w.alloc (.cells #[.slice A0_0 l0_0.length c0_0, .slice A0_1 l0_1.length c0_1] 24)) := (Below.refl _ _).alloc (Nat.le_refl _) _
  have HW := Lib.hid (cf_wide A0_0 c0_0 l0_0 _ (Kd.C_below hr0_0 hb))
  have HD := Lib.hid (cf_dear A0_1 c0_1 l0_1 _ (Kd.C_below hr0_1 hb))
  have m0 := hr0_0.2.1
  have m1 := hr0_1.2.1
  clear hr0_0 hr0_1 hc0_0 hc0_1
  have HB := Lib.hid hb
  clear hb
  by_cases h1 : l0_1.length < 1
  · have HE := Lib.hid (show rightB l0_0 l0_1 = false from by unfold rightB; rw [decide_eq_false (by omega)]; rfl)
    have g1 : (l0_1.length : Int) < 1 := by omega
    go_enter Try.func17, Try.ntmps17
    go_wp2_with fail
    go_ret
    exact ⟨rb HE.out.symm, HB.out⟩
  · have g1 : ¬ (l0_1.length : Int) < 1 := by omega
    by_cases h2 : 64 < l0_1.length
    · have HE := Lib.hid (show rightB l0_0 l0_1 = false from by unfold rightB; rw [decide_eq_false (by omega)]; rfl)
      have g2 : (64 : Int) < (l0_1.length : Int) := by omega
      go_enter Try.func17, Try.ntmps17
      go_wp2_with fail
      go_ret
      exact ⟨rb HE.out.symm, HB.out⟩
    · have g2 : ¬ (64 : Int) < (l0_1.length : Int) := by omega
      by_cases h3 : l0_0.length = l0_1.length + 1
      · have g3 : ((l0_0.length : Int) != (l0_1.length : Int) + 1) = false := by simp; omega
        cases hw : l0_0.any wideB with
        | true =>
          rw [hw] at HW
          have HE := Lib.hid (show rightB l0_0 l0_1 = false from by unfold rightB; rw [hw]; simp)
          clear hw h3
          go_enter Try.func17, Try.ntmps17
          go_wp2_with (go_at_call 31; refine HW.out.mono ?_; rintro e w1 ⟨rfl, rfl⟩)
          go_ret
          exact ⟨rb HE.out.symm, HB.out⟩
        | false =>
          rw [hw] at HW
          have HE := Lib.hid (show rightB l0_0 l0_1 = !l0_1.any dearB from by unfold rightB; rw [hw, decide_eq_true ⟨by omega, by omega, h3⟩]; simp)
          clear hw h3
          go_enter Try.func17, Try.ntmps17
          go_wp2_with fail
          refine HW.out.mono ?_
          rintro e w1 ⟨rfl, rfl⟩
          go_wp2_with fail
          refine HD.out.mono ?_
          rintro e w1 ⟨rfl, rfl⟩
          go_wp2_with fail
          go_ret
          exact ⟨rb HE.out.symm, HB.out⟩
      · have HE := Lib.hid (show rightB l0_0 l0_1 = false from by unfold rightB; rw [decide_eq_false (by omega)]; rfl)
        have g3 : ((l0_0.length : Int) != (l0_1.length : Int) + 1) = true := by simp; omega
        clear h3
        go_enter Try.func17, Try.ntmps17
        go_wp2_with fail
        go_ret
        exact ⟨rb HE.out.symm, HB.out⟩
end Go.Proofs.Ytiejdbdbafmccaa.PCh
/- part ChSolve -/
namespace Go.Proofs.Ytiejdbdbafmccaa
open Go.RowKit Go.Proofs.YtiejdbdbafmccaaW.PrintWords Go.Proofs.YtiejdbdbafmccaaW.PrintLast Go.Proofs.Ytiejdbdbafmccaa.PCh
theorem rt_of_right {ws cs : List Int} (h : rightB ws cs = true) : Rt ws cs := by
  unfold rightB at h
  simp only [Bool.and_eq_true, decide_eq_true_eq, Bool.not_eq_true'] at h
  obtain ⟨⟨⟨h1, h2, h3⟩, h4⟩, h5⟩ := h
  refine ⟨h1, h2, h3, fun x hx => ?_, fun x hx => ?_⟩
  · have := List.any_eq_false.1 h4 x hx
    simp [wideB] at this
    omega
  · have := List.any_eq_false.1 h5 x hx
    simp [dearB] at this
    omega
def solE (ws cs : List Int) (cap : Int) : Int := if rightB ws cs = false then 10 else if cap < 0 ∨ 4096 < cap then 11 else if (ans ws cs 0 cs.length cap).1 = -1 then 26 else 0
def solA (ws cs : List Int) (cap : Int) : Int × Int := if rightB ws cs = false then (0, 0) else if cap < 0 ∨ 4096 < cap then (0, 0) else if (ans ws cs 0 cs.length cap).1 = -1 then (0, 0) else ans ws cs 0 cs.length cap
theorem SV.set {w : World} {g mp b0 o0 c0 b1 o1 c1 : Nat} {ws cs : List Int} (h : SV w g mp b0 o0 c0 b1 o1 c1 ws cs) {p : Addr} (h1 : g ≠ p.block) (h2 : b0 ≠ p.block) (h3 : b1 ≠ p.block) (u : Value) : SV (w.setCell p u) g mp b0 o0 c0 b1 o1 c1 ws cs := by
  have hf : Frm [some p.block] w (w.setCell p u) := (Frm.refl _ _).setCell (Or.inl (by simp)) u
  exact ⟨h.blk.far h1 u, fun i hi => (hf.cell (World.block_lt_of_cell? _ _ (h.ws_ i hi)) (by simpa using h2)).trans (h.ws_ i hi), fun i hi => (hf.cell (World.block_lt_of_cell? _ _ (h.cs_ i hi)) (by simpa using h3)).trans (h.cs_ i hi)⟩
structure SolV (w : World) (c0 c1 : Nat) (ws cs : List Int) (p : Option Addr) (w' : World) : Prop where
  ex : ∃ g mp b0 o0 b1 o1 : Nat, p = some ⟨g, 0, none⟩ ∧ SV w' g mp b0 o0 c0 b1 o1 c1 ws cs ∧ Kn w' mp ws cs ∧ (w.heap.size ≤ g ∧ w.heap.size ≤ mp) ∧ b0 < w.heap.size ∧ b1 < w.heap.size
structure SolP (w : World) (c0 c1 : Nat) (ws cs : List Int) (cap : Int) (e : Ending) (w' : World) : Prop where
  ex : ∃ p, e = .returned (.tuple #[.pointer p, .agg #[.int .i64 (solA ws cs cap).1, .int .i64 (solA ws cs cap).2], .int .i64 (solE ws cs cap)]) ∧ (solE ws cs cap = 0 → SolV w c0 c1 ws cs p w')
  bl : Below w.heap.size w w'
theorem SolP.fail {w w1 : World} {c0 c1 : Nat} {ws cs : List Int} {cap E : Int} (h : solE ws cs cap = E ∧ solA ws cs cap = (0, 0)) (hE : E ≠ 0) (hb : Below w.heap.size w w1) : SolP w c0 c1 ws cs cap (.returned (.tuple #[.pointer none, .agg #[.int .i64 0, .int .i64 0], .int .i64 E])) ((w1.setCell ⟨w.heap.size + 1, 0, none⟩ (.int .i64 0)).setCell ⟨w.heap.size + 1, 1, none⟩ (.int .i64 0)) := by
  have n3 : w.heap.size ≤ w.heap.size + 1 := by omega
  exact ⟨⟨none, by rw [h.1, h.2], fun e => absurd (h.1.symm.trans e) hE⟩, (hb.setCell (p := ⟨w.heap.size + 1, 0, none⟩) n3 _).setCell (p := ⟨w.heap.size + 1, 1, none⟩) n3 _⟩
set_option maxHeartbeats 4000000 in
theorem solve_any (A0 : Option Addr) (c0 : Nat) (ws : List Int) (A1 : Option Addr) (c1 : Nat) (cs : List Int) (cap : Int) (w : World) (h0 : Kd.C (Kd.int .i64) w A0 ws.length ws) (hc0 : ws.length ≤ c0) (h1 : Kd.C (Kd.int .i64) w A1 cs.length cs) (hc1 : cs.length ≤ c1) :
    Calls Try.prog 21 #[.agg #[.slice A0 ws.length c0, .slice A1 cs.length c1], .int .i64 cap] w (SolP w c0 c1 ws cs cap) := by
  obtain ⟨W, hW⟩ : ∃ W, W = (w.alloc (.cells #[.slice A0 ws.length c0, .slice A1 cs.length c1] 24)).alloc (.cells #[.int .i64 0, .int .i64 0] 47) := ⟨_, rfl⟩
  have hbW : Below w.heap.size w W := by rw [hW]; exact ((Below.refl _ _).alloc (Nat.le_refl _) _).alloc (by simp) _
  have hP : Blk W w.heap.size 24 #[.slice A0 ws.length c0, .slice A1 cs.length c1] := by rw [hW]; exact (Blk.new _ _ _).alloc _
  have hA : Blk W (w.heap.size + 1) 47 #[.int .i64 0, .int .i64 0] := by
    have q := Blk.new (w.alloc (.cells #[.slice A0 ws.length c0, .slice A1 cs.length c1] 24)) 47 #[.int .i64 0, .int .i64 0]
    rw [hW]
    simpa using q
  have HR := Lib.hid (chain_Chain_Right.calls A0 c0 ws A1 c1 cs (rightB ws cs) W (Kd.C_below h0 hbW) hc0 (Kd.C_below h1 hbW) hc1 rfl)
  have HC0 := Lib.hid h0
  have HC1 := Lib.hid h1
  have p0 := hP.cell 0
  have p1 := hP.cell 1
  simp only [List.getElem?_toArray, List.getElem?_cons_zero, List.getElem?_cons_succ] at p0 p1
  have HP := Lib.hid hP; have HA := Lib.hid hA; have HB := Lib.hid hbW
  have m0 := h0.2.1
  have m1 := h1.2.1
  have HW := Lib.hid hW
  clear h0 h1 hc0 hc1 hW hP hA hbW
  cases hr : rightB ws cs with
  | false =>
    rw [hr] at HR
    have HX : Hid (solE ws cs cap = 10 ∧ solA ws cs cap = (0, 0)) := Lib.hid ⟨by unfold solE; rw [if_pos hr], by unfold solA; rw [if_pos hr]⟩
    clear hr
    go_enter Try.func21, Try.ntmps21
    go_wp2_with (go_at_call 17; rw [← HW.out]; refine HR.out.mono ?_; rintro e w1 ⟨rfl, hb1⟩; have hA1 := HA.out.below hb1 HA.out.lt; have q2 := hA1.cell 0; have q3 := hA1.cell 1; have qz0 := hA1.frozen 0; have qz1 := hA1.frozen 1; simp only [List.getElem?_toArray, List.getElem?_cons_zero, List.getElem?_cons_succ] at q2 q3; have HB1 := Lib.hid (HB.out.trans (hb1.mono HB.out.size)); clear hb1 hA1)
    refine bodyPost_ret (v := .tuple #[.pointer none, .agg #[.int .i64 0, .int .i64 0], .int .i64 10]) (by simp [results, Try.f21, go_sem, q2, q3, qz0, qz1]) rfl ?_
    exact SolP.fail HX.out (by decide) HB1.out
  | true =>
    rw [hr] at HR
    by_cases hq : cap < 0 ∨ 4096 < cap
    · have HX : Hid (solE ws cs cap = 11 ∧ solA ws cs cap = (0, 0)) := Lib.hid ⟨by unfold solE; rw [if_neg (by simp [hr]), if_pos hq], by unfold solA; rw [if_neg (by simp [hr]), if_pos hq]⟩
      clear hr
      by_cases hz : cap < 0
      · clear hq
        go_enter Try.func21, Try.ntmps21
        go_wp2_with (go_at_call 17; rw [← HW.out]; refine HR.out.mono ?_; rintro e w1 ⟨rfl, hb1⟩; have hA1 := HA.out.below hb1 HA.out.lt; have q2 := hA1.cell 0; have q3 := hA1.cell 1; have qz0 := hA1.frozen 0; have qz1 := hA1.frozen 1; simp only [List.getElem?_toArray, List.getElem?_cons_zero, List.getElem?_cons_succ] at q2 q3; have HB1 := Lib.hid (HB.out.trans (hb1.mono HB.out.size)); clear hb1 hA1)
        refine bodyPost_ret (v := .tuple #[.pointer none, .agg #[.int .i64 0, .int .i64 0], .int .i64 11]) (by simp [results, Try.f21, go_sem, q2, q3, qz0, qz1]) rfl ?_
        exact SolP.fail HX.out (by decide) HB1.out
      · have hq2 : 4096 < cap := hq.resolve_left hz
        have hzb : decide (cap < 0) = false := decide_eq_false hz
        clear hq
        go_enter Try.func21, Try.ntmps21
        go_wp2_with (go_at_call 17; rw [← HW.out]; refine HR.out.mono ?_; rintro e w1 ⟨rfl, hb1⟩; have hA1 := HA.out.below hb1 HA.out.lt; have q2 := hA1.cell 0; have q3 := hA1.cell 1; have qz0 := hA1.frozen 0; have qz1 := hA1.frozen 1; simp only [List.getElem?_toArray, List.getElem?_cons_zero, List.getElem?_cons_succ] at q2 q3; have HB1 := Lib.hid (HB.out.trans (hb1.mono HB.out.size)); clear hb1 hA1)
        refine bodyPost_ret (v := .tuple #[.pointer none, .agg #[.int .i64 0, .int .i64 0], .int .i64 11]) (by simp [results, Try.f21, go_sem, q2, q3, qz0, qz1]) rfl ?_
        exact SolP.fail HX.out (by decide) HB1.out
    · have hz1 : ¬ cap < 0 := fun h => hq (Or.inl h)
      have hz2 : ¬ 4096 < cap := fun h => hq (Or.inr h)
      have hzb : decide (cap < 0) = false := decide_eq_false hz1
      have hzc : decide (4096 < cap) = false := decide_eq_false hz2
      have HX : Hid (solE ws cs cap = (if (ans ws cs 0 cs.length cap).1 = -1 then 26 else 0) ∧ solA ws cs cap = (if (ans ws cs 0 cs.length cap).1 = -1 then (0, 0) else ans ws cs 0 cs.length cap)) := Lib.hid ⟨by unfold solE; rw [if_neg (by simp [hr]), if_neg hq], by unfold solA; rw [if_neg (by simp [hr]), if_neg hq]⟩
      have ht := rt_of_right hr
      have HT := Lib.hid ht
      obtain ⟨b0, o0, e0, hb0, hx0⟩ := C_at HC0.out (by rw [ht.len]; omega)
      obtain ⟨b1, o1, e1, hb1, hx1⟩ := C_at HC1.out (by have := ht.lo; omega)
      subst e0
      subst e1
      have HX0 := Lib.hid hx0
      have HX1 := Lib.hid hx1
      have HAK : Hid (∀ w1 : World, Below w.heap.size w w1 → SV ((w1.alloc (.map #[] 0)).alloc (.cells #[.slice (some ⟨b0, o0, none⟩) ws.length c0, .slice (some ⟨b1, o1, none⟩) cs.length c1, .int .i64 (cs.length : Int), .map (some w1.heap.size)] 57)) (w1.heap.size + 1) w1.heap.size b0 o0 c0 b1 o1 c1 ws cs ∧ Kn ((w1.alloc (.map #[] 0)).alloc (.cells #[.slice (some ⟨b0, o0, none⟩) ws.length c0, .slice (some ⟨b1, o1, none⟩) cs.length c1, .int .i64 (cs.length : Int), .map (some w1.heap.size)] 57)) w1.heap.size ws cs ∧ Calls Try.prog 32 #[.pointer (some ⟨w1.heap.size + 1, 0, none⟩), .agg #[.int .i64 0, .int .i64 (cs.length : Int), .int .i64 cap]] ((w1.alloc (.map #[] 0)).alloc (.cells #[.slice (some ⟨b0, o0, none⟩) ws.length c0, .slice (some ⟨b1, o1, none⟩) cs.length c1, .int .i64 (cs.length : Int), .map (some w1.heap.size)] 57)) (AskP ((w1.alloc (.map #[] 0)).alloc (.cells #[.slice (some ⟨b0, o0, none⟩) ws.length c0, .slice (some ⟨b1, o1, none⟩) cs.length c1, .int .i64 (cs.length : Int), .map (some w1.heap.size)] 57)) w1.heap.size ws cs (ans ws cs 0 cs.length cap))) := Lib.hid fun w1 hw1 => by
        have hb2 : Below w.heap.size w ((w1.alloc (.map #[] 0)).alloc (.cells #[.slice (some ⟨b0, o0, none⟩) ws.length c0, .slice (some ⟨b1, o1, none⟩) cs.length c1, .int .i64 (cs.length : Int), .map (some w1.heap.size)] 57)) := (hw1.alloc hw1.size _).alloc (by simp; have := hw1.size; omega) _
        have e1 : (w1.alloc (.map #[] 0)).heap.size = w1.heap.size + 1 := by simp
        have hsv : SV ((w1.alloc (.map #[] 0)).alloc (.cells #[.slice (some ⟨b0, o0, none⟩) ws.length c0, .slice (some ⟨b1, o1, none⟩) cs.length c1, .int .i64 (cs.length : Int), .map (some w1.heap.size)] 57)) (w1.heap.size + 1) w1.heap.size b0 o0 c0 b1 o1 c1 ws cs := by
          refine ⟨?_, fun i hi => ?_, fun i hi => ?_⟩
          · have q := Blk.new (w1.alloc (.map #[] 0)) 57 #[.slice (some ⟨b0, o0, none⟩) ws.length c0, .slice (some ⟨b1, o1, none⟩) cs.length c1, .int .i64 (cs.length : Int), .map (some w1.heap.size)]
            rwa [e1] at q
          · have q := (hb2.cell (p := ⟨b0, o0 + i, none⟩) hb0).trans (HX0.out i hi)
            rw [q]; simp [hi]
          · have q := (hb2.cell (p := ⟨b1, o1 + i, none⟩) hb1).trans (HX1.out i hi)
            rw [q]; simp [hi]
        have hkn : Kn ((w1.alloc (.map #[] 0)).alloc (.cells #[.slice (some ⟨b0, o0, none⟩) ws.length c0, .slice (some ⟨b1, o1, none⟩) cs.length c1, .int .i64 (cs.length : Int), .map (some w1.heap.size)] 57)) w1.heap.size ws cs :=
          ⟨#[], 0, (Below.heap_alloc _ _ _ (by simp)).trans (heap_alloc_new w1 _), memo_none ws cs⟩
        have q := ask_any cs.length _ (w1.heap.size + 1) w1.heap.size b0 o0 c0 b1 o1 c1 ws cs 0 cs.length cap hsv hkn HT.out (by have := HT.out.lo; omega) (Nat.le_refl _) (by omega) (by simp; omega) (by omega)
        exact ⟨hsv, hkn, q⟩
      have HBB := Lib.hid (And.intro hb0 hb1)
      clear hr hq hx0 hx1 ht HX0 HX1 hb0 hb1 hz1 hz2
      generalize ans ws cs 0 cs.length cap = a at *
      obtain ⟨y1, y2⟩ := a
      simp only at HX
      have HFI : Hid (∀ w1 w3 : World, Below w.heap.size w w1 → Blk w1 (w.heap.size + 1) 47 #[.int .i64 0, .int .i64 0] → Frm [some w1.heap.size] ((w1.alloc (.map #[] 0)).alloc (.cells #[.slice (some ⟨b0, o0, none⟩) ws.length c0, .slice (some ⟨b1, o1, none⟩) cs.length c1, .int .i64 (cs.length : Int), .map (some w1.heap.size)] 57)) w3 → Kn w3 w1.heap.size ws cs →
          Below w.heap.size w w3 ∧ SV w3 (w1.heap.size + 1) w1.heap.size b0 o0 c0 b1 o1 c1 ws cs ∧ Blk w3 (w.heap.size + 1) 47 #[.int .i64 0, .int .i64 0]) := Lib.hid fun w1 w3 h1 hA h2 h3 => by
        obtain ⟨s1, s2, _⟩ := HAK.out w1 h1
        have hb2 : Below w.heap.size w ((w1.alloc (.map #[] 0)).alloc (.cells #[.slice (some ⟨b0, o0, none⟩) ws.length c0, .slice (some ⟨b1, o1, none⟩) cs.length c1, .int .i64 (cs.length : Int), .map (some w1.heap.size)] 57)) := (h1.alloc h1.size _).alloc (by simp; have := h1.size; omega) _
        have hA2 := (hA.alloc (.map #[] 0)).alloc (.cells #[.slice (some ⟨b0, o0, none⟩) ws.length c0, .slice (some ⟨b1, o1, none⟩) cs.length c1, .int .i64 (cs.length : Int), .map (some w1.heap.size)] 57)
        exact ⟨hb2.trans ((h2.below hb2.size (fun x hx => by simp at hx; subst hx; exact h1.size))), s1.frm s2 h2, hA2.kn s2 h2⟩
      by_cases hy : y1 = -1
      · have HX := Lib.hid (And.intro (HX.out.1.trans (if_pos hy)) (HX.out.2.trans (if_pos hy)))
        subst hy
        go_enter Try.func21, Try.ntmps21
        go_wp2_with (first | (go_at_call 17; rw [← HW.out]; refine HR.out.mono ?_; rintro e w1 ⟨rfl, hb1⟩; have hA1 := HA.out.below hb1 HA.out.lt; have hP1 := HP.out.below hb1 HP.out.lt; have q0 := hP1.cell 0; have q1 := hP1.cell 1; simp only [List.getElem?_toArray, List.getElem?_cons_zero, List.getElem?_cons_succ] at q0 q1; have HA1 := Lib.hid hA1; have mk1 := run_makeMap (P := Try.prog) 55 w1; have HP1 := Lib.hid hP1; have HB1 := Lib.hid (HB.out.trans (hb1.mono HB.out.size)); clear hb1 hA1 hP1) | (go_at_call 32; refine ((HAK.out w1 HB1.out).2.2).mono ?_; rintro e w3 ⟨rfl, hf3, hk3⟩; have HK3 := Lib.hid hk3; have HF3 := Lib.hid (HFI.out w1 w3 HB1.out HA1.out hf3 hk3); have hA3 := (HF3.out.2.2).alloc (.cells #[.int .i64 (-1), .int .i64 y2] 47); have q2 := hA3.cell 0; have q3 := hA3.cell 1; have qz0 := hA3.frozen 0; have qz1 := hA3.frozen 1; simp only [List.getElem?_toArray, List.getElem?_cons_zero, List.getElem?_cons_succ] at q2 q3; clear hf3 hk3 hA3))
        refine bodyPost_ret (v := .tuple #[.pointer none, .agg #[.int .i64 0, .int .i64 0], .int .i64 26]) (by simp [results, Try.f21, go_sem, q2, q3, qz0, qz1]) rfl ?_
        exact SolP.fail HX.out (by decide) (HF3.out.1.alloc HF3.out.1.size _)
      · have HX := Lib.hid (And.intro (HX.out.1.trans (if_neg hy)) (HX.out.2.trans (if_neg hy)))
        have hyb : (y1 == -1) = false := by simpa using hy
        go_enter Try.func21, Try.ntmps21
        go_wp2_with (first | (go_at_call 17; rw [← HW.out]; refine HR.out.mono ?_; rintro e w1 ⟨rfl, hb1⟩; have hA1 := HA.out.below hb1 HA.out.lt; have hP1 := HP.out.below hb1 HP.out.lt; have q0 := hP1.cell 0; have q1 := hP1.cell 1; simp only [List.getElem?_toArray, List.getElem?_cons_zero, List.getElem?_cons_succ] at q0 q1; have HA1 := Lib.hid hA1; have mk1 := run_makeMap (P := Try.prog) 55 w1; have HP1 := Lib.hid hP1; have HB1 := Lib.hid (HB.out.trans (hb1.mono HB.out.size)); clear hb1 hA1 hP1) | (go_at_call 32; refine ((HAK.out w1 HB1.out).2.2).mono ?_; rintro e w3 ⟨rfl, hf3, hk3⟩; have HK3 := Lib.hid hk3; have HF3 := Lib.hid (HFI.out w1 w3 HB1.out HA1.out hf3 hk3); have hA3 := (HF3.out.2.2).alloc (.cells #[.int .i64 y1, .int .i64 y2] 47); have q2 := hA3.cell 0; have q3 := hA3.cell 1; have qz0 := hA3.frozen 0; have qz1 := hA3.frozen 1; simp only [List.getElem?_toArray, List.getElem?_cons_zero, List.getElem?_cons_succ] at q2 q3; clear hf3 hk3 hA3))
        have v0 := (Blk.new w3 47 #[.int .i64 y1, .int .i64 y2]).cell 0
        have v1 := (Blk.new w3 47 #[.int .i64 y1, .int .i64 y2]).cell 1
        simp only [List.getElem?_toArray, List.getElem?_cons_zero, List.getElem?_cons_succ] at v0 v1
        refine start_ (n := 5) (S := fun w' => w'.cell? ⟨w3.heap.size, 0, none⟩ = some (.int .i64 y1) ∧ w'.cell? ⟨w3.heap.size, 1, none⟩ = some (.int .i64 y2)) (ds := [3]) #[false, false, false, false, false] (by kernel_rfl) rfl rfl ⟨v0, v1⟩ (fun hHeld => ?_)
        refine pure_ (i := 0) (N := some 41) (v := ?_) (a' := ?_) #[true, false, false, false, false] rfl rfl (by kernel_rfl) (fun _ _ _ h => h) (Or.inl ⟨by rfl, ?_⟩) ?_ ?_
        rotate_left
        · intro w'
          go_simp
          with_reducible rfl
        rotate_left
        · simp only [Act.put, List.setIfInBounds_toArray, List.set_cons_zero, List.set_cons_succ, i64_w, i32_w]
          rfl
        refine pure_ (i := 2) (N := some 4) (v := ?_) (a' := ?_) #[true, false, true, false, false] rfl rfl (by kernel_rfl) (fun _ _ _ h => h) (Or.inl ⟨by rfl, ?_⟩) ?_ ?_
        rotate_left
        · intro w'
          go_simp
          with_reducible rfl
        rotate_left
        · simp only [Act.put, List.setIfInBounds_toArray, List.set_cons_zero, List.set_cons_succ, i64_w, i32_w]
          rfl
        refine take_ (i := 1) (N := some 42) (v := ?_) (a' := ?_) #[true, true, true, false, false] rfl rfl (by kernel_rfl) (fun _ _ _ h => h) (Or.inl ⟨by rfl, ?_⟩) hHeld ?_ ?_
        rotate_left
        · rintro w' ⟨s0, s1⟩
          go_simp
          with_reducible rfl
        rotate_left
        · simp only [Act.put, List.setIfInBounds_toArray, List.set_cons_zero, List.set_cons_succ, i64_w, i32_w]
          rfl
        refine last_ (i := 3) (N := none) #[true, true, true, true, false] rfl rfl (by kernel_rfl) (by decide) (fun K hK => ?_)
        refine skip_ (w1 := ?_) (by rfl) rfl ?_ ?_
        rotate_left
        · go_simp
          rfl
        refine hK.out _ _ ?_
        clear hK K
        refine pure_ (i := 4) (N := some 6) (v := ?_) (a' := ?_) #[true, true, true, true, true] rfl rfl (by kernel_rfl) (fun _ _ _ h => h) (Or.inl ⟨by rfl, ?_⟩) ?_ ?_
        rotate_left
        · intro w'
          go_simp
          with_reducible rfl
        rotate_left
        · simp only [Act.put, List.setIfInBounds_toArray, List.set_cons_zero, List.set_cons_succ, i64_w, i32_w]
          rfl
        refine done_ (by kernel_rfl) ?_
        have HBN := HBB.out
        have hs1 := HB1.out.size
        have q3k := HF3.out.2.1
        have hfin : SolP w c0 c1 ws cs cap (.returned (.tuple #[.pointer (some ⟨w1.heap.size + 1, 0, none⟩), .agg #[.int .i64 y1, .int .i64 y2], .int .i64 0])) (((w3.alloc (.cells #[.int .i64 y1, .int .i64 y2] 47)).setCell ⟨w.heap.size + 1, 0, none⟩ (.int .i64 y1)).setCell ⟨w.heap.size + 1, 1, none⟩ (.int .i64 y2)).drew := by
          have n3 : w.heap.size ≤ w.heap.size + 1 := by omega
          have n4 : w1.heap.size + 1 ≠ w.heap.size + 1 := by have := HA1.out.lt; omega
          have n5 : b0 ≠ w.heap.size + 1 := by omega
          have n6 : b1 ≠ w.heap.size + 1 := by omega
          have n7 : w.heap.size + 1 ≠ w1.heap.size := by have := HA1.out.lt; omega
          have hsv := q3k.below (B := w3.heap.size) ((Below.refl _ _).alloc (Nat.le_refl _) (.cells #[.int .i64 y1, .int .i64 y2] 47)) (Nat.le_refl _)
          have hkn := HK3.out.below (B := w3.heap.size) ((Below.refl _ _).alloc (Nat.le_refl _) (.cells #[.int .i64 y1, .int .i64 y2] 47)) (Nat.le_refl _)
          have hbl := HF3.out.1.alloc HF3.out.1.size (.cells #[.int .i64 y1, .int .i64 y2] 47)
          have hsv2 := ((hsv.set (p := ⟨w.heap.size + 1, 0, none⟩) n4 n5 n6 (.int .i64 y1)).set (p := ⟨w.heap.size + 1, 1, none⟩) n4 n5 n6 (.int .i64 y2)).below (Below.refl _ _).drew (Nat.le_refl _)
          have hkn2 := ((hkn.cell (p := ⟨w.heap.size + 1, 0, none⟩) n7 (.int .i64 y1)).cell (p := ⟨w.heap.size + 1, 1, none⟩) n7 (.int .i64 y2)).below (Below.refl _ _).drew (Nat.le_refl _)
          have hbl2 := ((hbl.setCell (p := ⟨w.heap.size + 1, 0, none⟩) n3 (.int .i64 y1)).setCell (p := ⟨w.heap.size + 1, 1, none⟩) n3 (.int .i64 y2)).drew
          refine ⟨⟨some ⟨w1.heap.size + 1, 0, none⟩, by rw [HX.out.1, HX.out.2], fun _ => ⟨⟨w1.heap.size + 1, w1.heap.size, b0, o0, b1, o1, rfl, hsv2, hkn2, ⟨by omega, by omega⟩, HBN⟩⟩⟩, hbl2⟩
        have HFIN := Lib.hid hfin
        clear hfin q3k HBN hs1 hHeld v0 v1
        go_wp2_with fail
        refine bodyPost_ret (v := .tuple #[.pointer (some ⟨w1.heap.size + 1, 0, none⟩), .agg #[.int .i64 y1, .int .i64 y2], .int .i64 0]) (by simp [results, Try.f21, go_sem, q2, q3, qz0, qz1]) rfl ?_
        exact HFIN.out
end Go.Proofs.Ytiejdbdbafmccaa
/- part ChWr -/
namespace Go.Proofs.Ytiejdbdbafmccaa
open Go.RowKit Go.Proofs.YtiejdbdbafmccaaW.PrintWords Go.Proofs.YtiejdbdbafmccaaW.PrintLast Go.Proofs.Ytiejdbdbafmccaa.PCh
def wcells (s : Option Addr) (vp : Value) (sv : List Bool) : Array Value := (Value.pointer s :: vp :: sv.map Value.bool).toArray
structure PI (N g mp b0 o0 c0 b1 o1 c1 gw : Nat) (ws cs : List Int) (vp : Value) (sv : List Bool) (p : List S63) (w : World) : Prop where
  s : SV w g mp b0 o0 c0 b1 o1 c1 ws cs
  kn : Kn w mp ws cs
  hb : (b0 < N ∧ b1 < N) ∧ N ≤ g ∧ N ≤ mp ∧ N ≤ gw
  wr : Blk w gw 53 (wcells (some ⟨g, 0, none⟩) vp sv)
  len : sv.length = 65
  own : k63.R 63 w N (fun _ => True) vp p
section
variable {N g mp b0 o0 c0 b1 o1 c1 gw : Nat} {ws cs : List Int} {vp : Value} {sv : List Bool} {p : List S63} {w w' : World}
theorem SV.frmS {S : List (Option Nat)} (h : SV w g mp b0 o0 c0 b1 o1 c1 ws cs) (hf : Frm S w w') (h1 : some g ∉ S) (h2 : some b0 ∉ S) (h3 : some b1 ∉ S) : SV w' g mp b0 o0 c0 b1 o1 c1 ws cs :=
  ⟨h.blk.frm hf h1, fun i hi => (hf.cell (World.block_lt_of_cell? _ _ (h.ws_ i hi)) h2).trans (h.ws_ i hi), fun i hi => (hf.cell (World.block_lt_of_cell? _ _ (h.cs_ i hi)) h3).trans (h.cs_ i hi)⟩
theorem Kn.frmS {S : List (Option Nat)} (h : Kn w mp ws cs) (hf : Frm S w w') (h1 : some mp ∉ S) : Kn w' mp ws cs := by
  obtain ⟨es, ck, h2, h3⟩ := h
  exact ⟨es, ck, (hf.block mp (Array.getElem?_eq_some_iff.1 h2).1 h1).trans h2, h3⟩
theorem code_frm {S : List (Option Nat)} (h : k63.R 63 w N (fun _ => True) vp p) (hf : Frm S w w') (hS : ∀ b, some b ∈ S → ∀ cells, w.heap[b]? ≠ some (.cells cells 63 (0, 0))) : k63.R 63 w' N (fun _ => True) vp p := by
  refine Kd.R_mono (Kd.R_step (Kd.R_bound h) (w1 := w') (fun k hk hlt => ?_)) (fun _ _ => trivial)
  obtain ⟨_, _, _, q, hq, cells, hc⟩ := hk
  have hq' : q = 63 := by simpa [k63, Kd.iso, Kd.pair, Kd.int, Kd.scalar] using hq
  subst hq'
  exact hf.block k hlt (fun hm => hS k hm cells hc)
theorem code_typed (h : k63.R 63 w N (fun _ => True) vp p) (b : Nat) (hb : vp.ownBlock = some b) : ∃ cells, w.heap[b]? = some (.cells cells 63 (0, 0)) := by
  obtain ⟨inner, ho⟩ := Kd.R_own h
  exact own_typed ho b hb
theorem PI.ne_g (h : PI N g mp b0 o0 c0 b1 o1 c1 gw ws cs vp sv p w) : g ≠ gw := Blk.ne_ h.s.blk h.wr (by decide)
theorem PI.own_g (h : PI N g mp b0 o0 c0 b1 o1 c1 gw ws cs vp sv p w) : vp.ownBlock ≠ some g := fun e => by
  obtain ⟨cells, hc⟩ := code_typed h.own g e
  have hb := h.s.blk
  unfold Blk at hb
  rw [hc] at hb
  cases hb
theorem PI.own_gw (h : PI N g mp b0 o0 c0 b1 o1 c1 gw ws cs vp sv p w) : vp.ownBlock ≠ some gw := fun e => by
  obtain ⟨cells, hc⟩ := code_typed h.own gw e
  have hb := h.wr
  unfold Blk at hb
  rw [hc] at hb
  cases hb
theorem PI.own_mp (h : PI N g mp b0 o0 c0 b1 o1 c1 gw ws cs vp sv p w) : vp.ownBlock ≠ some mp := fun e => by
  obtain ⟨cells, hc⟩ := code_typed h.own mp e
  obtain ⟨es, ck, h2, _⟩ := h.kn
  rw [hc] at h2
  cases h2
theorem PI.own_lo (h : PI N g mp b0 o0 c0 b1 o1 c1 gw ws cs vp sv p w) (b : Nat) (hb : b < N) : vp.ownBlock ≠ some b := fun e => by
  have := Kd.R_base h.own b e
  omega
theorem PI.below (h : PI N g mp b0 o0 c0 b1 o1 c1 gw ws cs vp sv p w) (hb : Below w.heap.size w w') : PI N g mp b0 o0 c0 b1 o1 c1 gw ws cs vp sv p w' :=
  ⟨h.s.below hb (Nat.le_refl _), h.kn.below hb (Nat.le_refl _), h.hb, h.wr.below hb h.wr.lt, h.len, Kd.R_below h.own hb⟩
theorem PI.frm (h : PI N g mp b0 o0 c0 b1 o1 c1 gw ws cs vp sv p w) (hf : Frm [some mp] w w') (hk : Kn w' mp ws cs) : PI N g mp b0 o0 c0 b1 o1 c1 gw ws cs vp sv p w' :=
  ⟨h.s.frm h.kn hf, hk, h.hb, h.wr.kn h.kn hf, h.len, code_frm h.own hf (fun b hb cells hc => by
    simp at hb
    subst hb
    obtain ⟨es, ck, h2, _⟩ := h.kn
    rw [hc] at h2
    cases h2)⟩
theorem PI.save (h : PI N g mp b0 o0 c0 b1 o1 c1 gw ws cs vp sv p w) (i : Nat) : PI N g mp b0 o0 c0 b1 o1 c1 gw ws cs vp (sv.set i true) p (w.setCell ⟨gw, 2 + i, none⟩ (.bool true)) := by
  have hne := h.ne_g
  have hlo := h.hb
  refine ⟨h.s.set (p := ⟨gw, 2 + i, none⟩) hne (by show b0 ≠ gw; omega) (by show b1 ≠ gw; omega) _, h.kn.cell (p := ⟨gw, 2 + i, none⟩) (h.kn.ne h.wr) _, h.hb, ?_, by simpa using h.len, Kd.R_set h.own h.wr (by simp [k63, Kd.iso, Kd.pair, Kd.int, Kd.scalar]) _ _⟩
  have q := h.wr.set_ (2 + i) (.bool true)
  rw [show (wcells (some ⟨g, 0, none⟩) vp sv).setIfInBounds (2 + i) (.bool true) = wcells (some ⟨g, 0, none⟩) vp (sv.set i true) from by
    rw [Nat.add_comm]; simp [wcells, List.map_set]] at q
  exact q
theorem PI.app {vp1 : Value} {x : S63} (h : PI N g mp b0 o0 c0 b1 o1 c1 gw ws cs vp sv p w) (h1 : k63.R 63 w' N (fun _ => True) vp1 (p ++ [x])) (hg : w.grownBy w' vp.ownBlock) : PI N g mp b0 o0 c0 b1 o1 c1 gw ws cs vp1 sv (p ++ [x]) (w'.setCell ⟨gw, 1, none⟩ vp1) := by
  have hf : Frm [vp.ownBlock] w w' := (Frm.refl _ _).grown hg (fun k hk => Or.inl (by simp [hk]))
  have hne := h.ne_g
  have hlo := h.hb
  have n1 : some g ∉ [vp.ownBlock] := by simpa using fun e => h.own_g e.symm
  have n2 : some b0 ∉ [vp.ownBlock] := by simpa using fun e => h.own_lo b0 (by omega) e.symm
  have n3 : some b1 ∉ [vp.ownBlock] := by simpa using fun e => h.own_lo b1 (by omega) e.symm
  have n4 : some mp ∉ [vp.ownBlock] := by simpa using fun e => h.own_mp e.symm
  have n5 : some gw ∉ [vp.ownBlock] := by simpa using fun e => h.own_gw e.symm
  have hw := h.wr.frm hf n5
  refine ⟨(h.s.frmS hf n1 n2 n3).set (p := ⟨gw, 1, none⟩) hne (by show b0 ≠ gw; omega) (by show b1 ≠ gw; omega) _, (h.kn.frmS hf n4).cell (p := ⟨gw, 1, none⟩) (h.kn.ne h.wr) _, h.hb, ?_, h.len, Kd.R_set h1 hw (by simp [k63, Kd.iso, Kd.pair, Kd.int, Kd.scalar]) _ _⟩
  have q := hw.set_ 1 vp1
  exact q
theorem PI.k0 (h : PI N g mp b0 o0 c0 b1 o1 c1 gw ws cs vp sv p w) : w.cell? ⟨gw, 0, none⟩ = some (.pointer (some ⟨g, 0, none⟩)) := h.wr.cell 0
theorem PI.k1 (h : PI N g mp b0 o0 c0 b1 o1 c1 gw ws cs vp sv p w) : w.cell? ⟨gw, 1, none⟩ = some vp := h.wr.cell 1
theorem PI.k2 (h : PI N g mp b0 o0 c0 b1 o1 c1 gw ws cs vp sv p w) {i : Nat} (hi : i < 65) : w.cell? ⟨gw, 2 + i, none⟩ = some (.bool (sv.getD i false)) := by
  rw [h.wr.cell (2 + i), Nat.add_comm]
  have := h.len
  simp [wcells, show i < sv.length from by omega]
end
structure BkP (N g mp b0 o0 c0 b1 o1 c1 gw : Nat) (ws cs : List Int) (w : World) (vp : Value) (sv : List Bool) (p : List S63) (w' : World) : Prop where
  ex : ∃ vp', PI N g mp b0 o0 c0 b1 o1 c1 gw ws cs vp' sv p w' ∧ Frm [some mp, some gw, vp.ownBlock] w w' ∧ ∀ b, vp'.ownBlock = some b → vp.ownBlock = some b ∨ w.heap.size ≤ b
theorem info_IT : (Try.prog.info? 63).map (fun i => (i.zero, i.size, i.bytes)) = some (some (.agg #[.int .i64 0, .int .i64 0]), 2, 16) := by kernel_rfl
set_option maxHeartbeats 2000000 in
theorem do_any (N g mp b0 o0 c0 b1 o1 c1 gw : Nat) (ws cs : List Int) (vp : Value) (sv : List Bool) (p : List S63) (w : World) (kd id : Int) (h : PI N g mp b0 o0 c0 b1 o1 c1 gw ws cs vp sv p w) (hN : N ≤ w.heap.size) (hp : p.length ≤ 200000) :
    Calls Try.prog 34 #[.pointer (some ⟨gw, 0, none⟩), .int .i64 kd, .int .i64 id] w fun e w' => e = .returned (.tuple #[]) ∧ BkP N g mp b0 o0 c0 b1 o1 c1 gw ws cs w vp sv (p ++ [⟨kd, id⟩]) w' := by
  have q1 := h.k1
  have qz := h.wr.frozen 1
  have hgw := h.wr.lt
  have HR := Lib.hid h.own
  have HF : Hid (∀ v1 w1, k63.R 63 w1 N (fun _ => True) v1 (p ++ [⟨kd, id⟩]) → w.grownBy w1 vp.ownBlock → (v1.ownBlock = vp.ownBlock ∨ ∃ b, v1.ownBlock = some b ∧ w.heap.size ≤ b) → (w1.cell? ⟨gw, 1, none⟩ = some vp ∧ w1.frozen? ⟨gw, 1, none⟩ = false) ∧ BkP N g mp b0 o0 c0 b1 o1 c1 gw ws cs w vp sv (p ++ [⟨kd, id⟩]) (w1.setCell ⟨gw, 1, none⟩ v1)) := Lib.hid fun v1 w1 h1 hg ho => by
    have hf : Frm [vp.ownBlock] w w1 := (Frm.refl _ _).grown hg (fun k hk => Or.inl (by simp [hk]))
    have n5 : some gw ∉ [vp.ownBlock] := by simpa using fun e => h.own_gw e.symm
    have hw := h.wr.frm hf n5
    refine ⟨⟨hw.cell 1, hw.frozen 1⟩, ⟨v1, h.app h1 hg, ?_, fun b hb => ?_⟩⟩
    · exact (hf.mono (S' := [some mp, some gw, vp.ownBlock]) (fun x hx => Or.inl (by simp at hx; simp [hx]))).setCell (p := ⟨gw, 1, none⟩) (Or.inl (by simp)) _
    · rcases ho with ho | ⟨c, ho, hc⟩
      · exact Or.inl (ho ▸ hb)
      · rw [ho] at hb
        injection hb with hb
        exact Or.inr (by omega)
  clear h
  go_enter Try.func34, Try.ntmps34
  go_wp2_with (at_builtin; refine Kd.R_append k63 (w0 := w) N rfl (.tmp 10) (.tmp 14) 31 63 (.agg #[.int .i64 0, .int .i64 0]) 16 rfl Try.underlying31 info_IT rfl (by decide) (by omega) vp p ⟨kd, id⟩ [.int .i64 kd, .int .i64 id] (fun _ => True) (fun _ => False) rfl rfl (k63_mkM _ _ _ _) (fun _ hk => hk.elim) (fun _ _ => trivial) HR.out (Below.refl _ _) hN (by omega) ?_; intro v1 w1 h1 _ hg ho; obtain ⟨⟨r1, r2⟩, hb⟩ := HF.out v1 w1 h1 hg ho; obtain ⟨A1, k1, e1⟩ := Kd.R_slice h1; obtain ⟨n1, hn1⟩ : ∃ n1, n1 = (p ++ [(⟨kd, id⟩ : S63)]).length := ⟨_, rfl⟩; rw [← hn1] at e1; subst e1; have HB := Lib.hid hb; clear h1 hg ho hb hn1)
  refine bodyPost_end (results_none rfl _ _ _) rfl ?_
  exact ⟨rfl, HB.out⟩
theorem BkP.trans {N g mp b0 o0 c0 b1 o1 c1 gw : Nat} {ws cs : List Int} {vp vp1 : Value} {sv2 : List Bool} {p2 : List S63} {w w1 w2 : World} (hle : w.heap.size ≤ w1.heap.size) (hf : Frm [some mp, some gw, vp.ownBlock] w w1) (hn : ∀ b, vp1.ownBlock = some b → vp.ownBlock = some b ∨ w.heap.size ≤ b) (h : BkP N g mp b0 o0 c0 b1 o1 c1 gw ws cs w1 vp1 sv2 p2 w2) : BkP N g mp b0 o0 c0 b1 o1 c1 gw ws cs w vp sv2 p2 w2 := by
  obtain ⟨vp2, h1, h2, h3⟩ := h
  refine ⟨vp2, h1, hf.trans' h2 (fun x hx => ?_), fun b hb => ?_⟩
  · simp only [List.mem_cons, List.not_mem_nil, or_false, Option.some.injEq] at hx ⊢
    rcases hx with hx | hx | hx
    · exact Or.inl (Or.inl hx)
    · exact Or.inl (Or.inr (Or.inl hx))
    · rcases hn x hx.symm with hx | hx
      · exact Or.inl (Or.inr (Or.inr hx.symm))
      · exact Or.inr hx
  · rcases h3 b hb with h4 | h4
    · exact hn b h4
    · exact Or.inr (by omega)
def reckP (sv : List Bool) (p : List S63) (id : Nat) : List S63 := p ++ [⟨if sv.getD id false then 2 else 1, (id : Int)⟩]
set_option maxHeartbeats 2000000 in
theorem reckon_any (N g mp b0 o0 c0 b1 o1 c1 gw : Nat) (ws cs : List Int) (vp : Value) (sv : List Bool) (p : List S63) (w : World) (id : Nat) (h : PI N g mp b0 o0 c0 b1 o1 c1 gw ws cs vp sv p w) (hN : N ≤ w.heap.size) (hp : p.length ≤ 200000) (hi : id ≤ 64) :
    Calls Try.prog 33 #[.pointer (some ⟨gw, 0, none⟩), .int .i64 (id : Int)] w fun e w' => e = .returned (.tuple #[]) ∧ BkP N g mp b0 o0 c0 b1 o1 c1 gw ws cs w vp (sv.set id true) (reckP sv p id) w' := by
  have q1 := h.k2 (i := id) (by omega)
  have qz := h.wr.frozen (2 + id)
  have i1 : (id : Int) < 65 := by omega
  have i2 : (0 : Int) ≤ (id : Int) := by omega
  have hS := h.save id
  have hf : Frm [some mp, some gw, vp.ownBlock] w (w.setCell ⟨gw, 2 + id, none⟩ (.bool true)) := (Frm.refl _ _).setCell (p := ⟨gw, 2 + id, none⟩) (Or.inl (by simp)) _
  have HD := Lib.hid fun kd => (do_any N g mp b0 o0 c0 b1 o1 c1 gw ws cs vp (sv.set id true) p _ kd id hS (Nat.le_trans hN hf.size) hp).mono fun e w' he => And.intro he.1 (BkP.trans hf.size hf (fun b hb => Or.inl hb) he.2)
  have HX := Lib.hid (show reckP sv p id = p ++ [⟨if sv.getD id false then 2 else 1, (id : Int)⟩] from rfl)
  clear h hS hf
  generalize reckP sv p id = R at *
  cases hb : sv.getD id false with
  | true =>
    rw [hb] at q1 HX
    simp only [if_true] at HX
    clear hb
    go_enter Try.func33, Try.ntmps33
    go_wp2_with (go_at_call 34; refine (HD.out 2).mono ?_; rintro e w1 ⟨rfl, hb1⟩; have HB := Lib.hid hb1; clear hb1)
    refine bodyPost_end (results_none rfl _ _ _) rfl ?_
    exact ⟨rfl, by rw [HX.out]; exact HB.out⟩
  | false =>
    rw [hb] at q1 HX
    simp only [Bool.false_eq_true, if_false] at HX
    clear hb
    go_enter Try.func33, Try.ntmps33
    go_wp2_with (go_at_call 34; refine (HD.out 1).mono ?_; rintro e w1 ⟨rfl, hb1⟩; have HB := Lib.hid hb1; clear hb1)
    refine bodyPost_end (results_none rfl _ _ _) rfl ?_
    exact ⟨rfl, by rw [HX.out]; exact HB.out⟩
end Go.Proofs.Ytiejdbdbafmccaa
/- part ChPl -/
namespace Go.Proofs.Ytiejdbdbafmccaa
open Go.Proofs.Ytiejdbdbafmccaa.PCh
def sumC (cs : List Int) (l : Nat) : Nat → Int
  | 0 => 0
  | n + 1 => sumC cs l n + cs.getD (l + n) 0
structure Cut (ws cs : List Int) (l r : Nat) (m : Int) (a : Int × Int) (k : Nat) : Prop where
  lo : l < k
  hi : k < r
  k2 : a.2 = (k : Int)
  fa : (ans ws cs k r (m - ws.getD k 0)).1 ≠ -1
  fb : (ans ws cs l k m).1 ≠ -1
  cost : a.1 = sumC cs l (k - l) + (ans ws cs k r (m - ws.getD k 0)).1 + (ans ws cs l k m).1
  steps : ∀ i, l ≤ i → i < k → needStep ws cs l r i ≤ m
theorem loop_cut {ws cs : List Int} {l r : Nat} {m : Int} : ∀ (f k : Nat) (wk : Int) (best : Int × Int), l < k → wk = sumC cs l (k - 1 - l) → (∀ i, l ≤ i → i < k - 1 → needStep ws cs l r i ≤ m) → (best.1 ≠ -1 → ∃ k', Cut ws cs l r m best k') →
    (loopP (ans ws cs) ws cs l r m f k wk best).1 ≠ -1 → ∃ k', Cut ws cs l r m (loopP (ans ws cs) ws cs l r m f k wk best) k' := by
  intro f
  induction f with
  | zero => exact fun _ _ _ _ _ _ hb h => hb h
  | succ f ih =>
    intro k wk best hk hw hs hb h
    unfold loopP at h ⊢
    by_cases hc : k < r ∧ needStep ws cs l r (k - 1) ≤ m
    · rw [if_pos hc] at h ⊢
      have hs2 : ∀ i, l ≤ i → i < k → needStep ws cs l r i ≤ m := fun i h1 h2 => by
        by_cases he : i = k - 1
        · subst he; exact hc.2
        · exact hs i h1 (by omega)
      have hw2 : wk + cs.getD (k - 1) 0 = sumC cs l (k - l) := by
        rw [hw, show k - l = (k - 1 - l) + 1 from by omega]
        show _ = sumC cs l (k - 1 - l) + cs.getD (l + (k - 1 - l)) 0
        rw [show l + (k - 1 - l) = k - 1 from by omega]
      refine ih (k + 1) _ _ (by omega) (by rw [hw2, show k + 1 - 1 - l = k - l from by omega]) (fun i h1 h2 => hs2 i h1 (by omega)) (fun hr => ?_) h
      unfold rnd at hr ⊢
      by_cases ha : (ans ws cs k r (m - ws.getD k 0)).1 = -1
      · rw [if_pos ha] at hr ⊢
        exact hb hr
      · rw [if_neg ha] at hr ⊢
        by_cases hbb : (ans ws cs l k m).1 = -1
        · rw [if_pos hbb] at hr ⊢
          exact hb hr
        · rw [if_neg hbb] at hr ⊢
          unfold best' at hr ⊢
          split
          · exact ⟨k, hk, hc.1, rfl, ha, hbb, by rw [hw2], hs2⟩
          · rename_i hq
            exact hb (fun e => hq (Or.inl e))
    · rw [if_neg hc] at h ⊢
      exact hb h
theorem ans_cut {ws cs : List Int} {l r : Nat} {m : Int} (h : l + 1 < r) (hf : (ans ws cs l r m).1 ≠ -1) : ∃ k, Cut ws cs l r m (ans ws cs l r m) k := by
  rw [ans_split h] at hf ⊢
  exact loop_cut _ _ _ _ (by omega) (by rw [show l + 1 - 1 - l = 0 from by omega]; rfl) (fun i h1 h2 => by omega) (fun hr => absurd rfl hr) hf
abbrev St := List Bool × List S63
def doS (s : St) (k id : Int) : St := (s.1, s.2 ++ [⟨k, id⟩])
def reckS (s : St) (id : Nat) : St := (s.1.set id true, reckP s.1 s.2 id)
def toS (l : Nat) : Nat → Nat → St → St
  | 0, _, s => s
  | n + 1, i, s => toS l n (i + 1) (if l < i then doS (reckS s (i + 1)) 3 (i : Int) else reckS s (i + 1))
def leafS (cs : List Int) (r : Nat) (s : St) : St := if r = cs.length then doS (doS (doS (doS (reckS s r) 4 0) 3 (r : Int)) 5 0) 6 (r : Int) else doS s 6 (r : Int)
def backF (ws cs : List Int) : Nat → Nat → Nat → Int → St → St
  | 0, _, _, _, s => s
  | f + 1, l, r, m, s => if r = l + 1 then leafS cs r s else
    backF ws cs f l (ans ws cs l r m).2.toNat m (doS (backF ws cs f (ans ws cs l r m).2.toNat r (m - ws.getD (ans ws cs l r m).2.toNat 0) (toS l ((ans ws cs l r m).2.toNat - l) l s)) 3 ((ans ws cs l r m).2.toNat : Int))
theorem backF_leaf {ws cs : List Int} {f l r : Nat} {m : Int} {s : St} (h : r = l + 1) : backF ws cs (f + 1) l r m s = leafS cs r s := by
  unfold backF
  rw [if_pos h]
theorem backF_split {ws cs : List Int} {f l r k : Nat} {m : Int} {s : St} (h : ¬ r = l + 1) (hk : (ans ws cs l r m).2 = (k : Int)) : backF ws cs (f + 1) l r m s = backF ws cs f l k m (doS (backF ws cs f k r (m - ws.getD k 0) (toS l (k - l) l s)) 3 (k : Int)) := by
  have e : (ans ws cs l r m).2.toNat = k := by rw [hk]; rfl
  conv => lhs; unfold backF
  rw [if_neg h, e]
theorem reck_len (s : St) (id : Nat) : (reckS s id).2.length = s.2.length + 1 := by simp [reckS, reckP]
theorem do_len (s : St) (k id : Int) : (doS s k id).2.length = s.2.length + 1 := by simp [doS]
theorem to_len (l : Nat) : ∀ n i s, (toS l n i s).2.length ≤ s.2.length + 2 * n
  | 0, _, _ => by simp [toS]
  | n + 1, i, s => by
    unfold toS
    split
    · have := to_len l n (i + 1) (doS (reckS s (i + 1)) 3 (i : Int))
      rw [do_len, reck_len] at this
      omega
    · have := to_len l n (i + 1) (reckS s (i + 1))
      rw [reck_len] at this
      omega
theorem leaf_len (cs : List Int) (r : Nat) (s : St) : (leafS cs r s).2.length ≤ s.2.length + 5 := by
  unfold leafS
  split <;> simp only [do_len, reck_len] <;> omega
theorem sq5 (a b : Nat) (ha : 1 ≤ a) (hb : 1 ≤ b) : 2 * b + 1 + 5 * (a * a) + 5 * (b * b) ≤ 5 * ((a + b) * (a + b)) := by
  have e2 : (a + b) * (a + b) = a * a + a * b + (b * a + b * b) := by rw [Nat.add_mul, Nat.mul_add, Nat.mul_add]
  have : 1 * b ≤ a * b := Nat.mul_le_mul ha (Nat.le_refl _)
  have e : b * a = a * b := Nat.mul_comm _ _
  omega
theorem back_len {ws cs : List Int} : ∀ f l r m s, l < r → (ans ws cs l r m).1 ≠ -1 → (backF ws cs f l r m s).2.length ≤ s.2.length + 5 * ((r - l) * (r - l))
  | 0, _, _, _, _, _, _ => by unfold backF; omega
  | f + 1, l, r, m, s, hl, hf => by
    unfold backF
    split
    · rename_i h
      have := leaf_len cs r s
      rw [h, show l + 1 - l = 1 from by omega]
      rw [h] at this
      omega
    · rename_i h
      obtain ⟨k, hc⟩ := ans_cut (by omega) hf
      have e : (ans ws cs l r m).2.toNat = k := by rw [hc.k2]; rfl
      rw [e]
      have n1 := to_len l (k - l) l s
      have n2 := back_len f k r (m - ws.getD k 0) (toS l (k - l) l s) hc.hi hc.fa
      have n3 := back_len f l k m (doS (backF ws cs f k r (m - ws.getD k 0) (toS l (k - l) l s)) 3 (k : Int)) hc.lo hc.fb
      rw [do_len] at n3
      have n4 := sq5 (r - k) (k - l) (by have := hc.hi; omega) (by have := hc.lo; omega)
      rw [show r - k + (k - l) = r - l from by have := hc.hi; have := hc.lo; omega] at n4
      omega
end Go.Proofs.Ytiejdbdbafmccaa
/- part ChMono -/
namespace Go.Proofs.Ytiejdbdbafmccaa
open Go.Proofs.Ytiejdbdbafmccaa.PCh
theorem best_le (b : Int × Int) (c k : Int) (hc : c ≠ -1) : (best' b c k).1 ≠ -1 ∧ (best' b c k).1 ≤ c ∧ (b.1 ≠ -1 → (best' b c k).1 ≤ b.1) := by
  unfold best'
  split
  · rename_i h
    refine ⟨hc, by simp, fun hb => ?_⟩
    rcases h with h | h
    · exact absurd h hb
    · simp only; omega
  · rename_i h
    refine ⟨fun e => h (Or.inl e), ?_, fun _ => Int.le_refl _⟩
    have : ¬ c < b.1 := fun e => h (Or.inr e)
    omega
theorem loop_keep {A : Nat → Nat → Int → Int × Int} {ws cs : List Int} {l r : Nat} {m : Int} (hA : ∀ k m', (A k r m').1 = -1 ∨ 0 ≤ (A k r m').1) (hB : ∀ k, (A l k m).1 = -1 ∨ 0 ≤ (A l k m).1) (hcs : ∀ i, 0 ≤ cs.getD i 0) : ∀ (f k : Nat) (wk : Int) (best : Int × Int), 0 ≤ wk → best.1 ≠ -1 →
    (loopP A ws cs l r m f k wk best).1 ≠ -1 ∧ (loopP A ws cs l r m f k wk best).1 ≤ best.1 := by
  intro f
  induction f with
  | zero => exact fun _ _ _ _ hb => ⟨hb, Int.le_refl _⟩
  | succ f ih =>
    intro k wk best hw hb
    unfold loopP
    have hc := hcs (k - 1)
    split
    · have hr : (rnd A ws l r m k (wk + cs.getD (k - 1) 0) best).1 ≠ -1 ∧ (rnd A ws l r m k (wk + cs.getD (k - 1) 0) best).1 ≤ best.1 := by
        unfold rnd
        split
        · exact ⟨hb, Int.le_refl _⟩
        split
        · exact ⟨hb, Int.le_refl _⟩
        rename_i h1 h2
        have a1 := (hA k (m - ws.getD k 0)).resolve_left h1
        have a2 := (hB k).resolve_left h2
        obtain ⟨q1, _, q3⟩ := best_le best (wk + cs.getD (k - 1) 0 + (A k r (m - ws.getD k 0)).1 + (A l k m).1) k (by omega)
        exact ⟨q1, q3 hb⟩
      obtain ⟨h1, h2⟩ := ih (k + 1) (wk + cs.getD (k - 1) 0) _ (by omega) hr.1
      exact ⟨h1, Int.le_trans h2 hr.2⟩
    · exact ⟨hb, Int.le_refl _⟩
theorem sumC_nn {cs : List Int} (hcs : ∀ i, 0 ≤ cs.getD i 0) (l : Nat) : ∀ n, 0 ≤ sumC cs l n
  | 0 => Int.le_refl _
  | n + 1 => by
    have := sumC_nn hcs l n
    have := hcs (l + n)
    show 0 ≤ sumC cs l n + cs.getD (l + n) 0
    omega
theorem sumC_add (cs : List Int) (l a : Nat) : ∀ b, sumC cs l (a + b) = sumC cs l a + sumC cs (l + a) b
  | 0 => by simp [sumC]
  | b + 1 => by
    have := sumC_add cs l a b
    show sumC cs l (a + b) + cs.getD (l + (a + b)) 0 = sumC cs l a + (sumC cs (l + a) b + cs.getD (l + a + b) 0)
    rw [this, Nat.add_assoc l a b]
    omega
theorem loop_le {A : Nat → Nat → Int → Int × Int} {ws cs : List Int} {l r : Nat} {m : Int} (hA : ∀ k m', (A k r m').1 = -1 ∨ 0 ≤ (A k r m').1) (hB : ∀ k, (A l k m).1 = -1 ∨ 0 ≤ (A l k m).1) (hcs : ∀ i, 0 ≤ cs.getD i 0) (k0 : Nat) (hk0 : k0 < r) (fa : (A k0 r (m - ws.getD k0 0)).1 ≠ -1) (fb : (A l k0 m).1 ≠ -1) (hs : ∀ i, l ≤ i → i < k0 → needStep ws cs l r i ≤ m) : ∀ (f k : Nat) (wk : Int) (best : Int × Int), l < k → k ≤ k0 → k0 < k + f → wk = sumC cs l (k - 1 - l) →
    (loopP A ws cs l r m f k wk best).1 ≠ -1 ∧ (loopP A ws cs l r m f k wk best).1 ≤ sumC cs l (k0 - l) + (A k0 r (m - ws.getD k0 0)).1 + (A l k0 m).1 := by
  intro f
  induction f with
  | zero => intro k _ _ _ h1 h2; omega
  | succ f ih =>
    intro k wk best hl hk hf hw
    unfold loopP
    rw [if_pos ⟨by omega, hs (k - 1) (by omega) (by omega)⟩]
    have hw2 : wk + cs.getD (k - 1) 0 = sumC cs l (k - l) := by
      rw [hw, show k - l = (k - 1 - l) + 1 from by omega]
      show _ = sumC cs l (k - 1 - l) + cs.getD (l + (k - 1 - l)) 0
      rw [show l + (k - 1 - l) = k - 1 from by omega]
    by_cases he : k = k0
    · subst he
      have hr : (rnd A ws l r m k (wk + cs.getD (k - 1) 0) best).1 ≠ -1 ∧ (rnd A ws l r m k (wk + cs.getD (k - 1) 0) best).1 ≤ sumC cs l (k - l) + (A k r (m - ws.getD k 0)).1 + (A l k m).1 := by
        unfold rnd
        rw [if_neg fa, if_neg fb, hw2]
        have a1 := (hA k (m - ws.getD k 0)).resolve_left fa
        have a2 := (hB k).resolve_left fb
        have := sumC_nn hcs l (k - l)
        obtain ⟨q1, q2, _⟩ := best_le best (sumC cs l (k - l) + (A k r (m - ws.getD k 0)).1 + (A l k m).1) k (by omega)
        exact ⟨q1, q2⟩
      obtain ⟨h1, h2⟩ := loop_keep hA hB hcs f (k + 1) (wk + cs.getD (k - 1) 0) _ (by rw [hw2]; exact sumC_nn hcs _ _) hr.1
      exact ⟨h1, Int.le_trans h2 hr.2⟩
    · exact ih (k + 1) _ _ (by omega) (by omega) (by omega) (by rw [hw2, show k + 1 - 1 - l = k - l from by omega])
theorem ans_nn {ws cs : List Int} (h : Rt ws cs) {l r : Nat} (m : Int) (hr : r ≤ 64) : (ans ws cs l r m).1 = -1 ∨ 0 ≤ (ans ws cs l r m).1 := by
  by_cases hl : l < r
  · have := ans_ok h m hl hr
    rcases this.1 with h1 | h1
    · exact Or.inl h1
    · exact Or.inr (by omega)
  · left
    unfold ans
    rw [show r - l = 0 from by omega]
    rfl
def cutA (A : Nat → Nat → Int → Int × Int) (l r : Nat) (l' k : Nat) (m : Int) : Int × Int := if l' = l ∧ r ≤ k then (-1, 0) else A l' k m
theorem cutA_of {A : Nat → Nat → Int → Int × Int} {l r l' k : Nat} (m : Int) (h : ¬ (l' = l ∧ r ≤ k)) : cutA A l r l' k m = A l' k m := if_neg h
theorem ans_le {ws cs : List Int} (h : Rt ws cs) {l r : Nat} {m : Int} (hr : r ≤ 64) (k0 : Nat) (hl : l < k0) (hk0 : k0 < r) (fa : (ans ws cs k0 r (m - ws.getD k0 0)).1 ≠ -1) (fb : (ans ws cs l k0 m).1 ≠ -1) (hs : ∀ i, l ≤ i → i < k0 → needStep ws cs l r i ≤ m) :
    (ans ws cs l r m).1 ≠ -1 ∧ (ans ws cs l r m).1 ≤ sumC cs l (k0 - l) + (ans ws cs k0 r (m - ws.getD k0 0)).1 + (ans ws cs l k0 m).1 := by
  rw [ans_split (by omega : l + 1 < r)]
  have e := loop_congr (A := ans ws cs) (B := cutA (ans ws cs) l r) (ws := ws) (cs := cs) (l := l) (r := r) (m := m) (fun k m' h1 h2 => ⟨(cutA_of _ (by omega)).symm, (cutA_of _ (by omega)).symm⟩) (r - (l + 1)) (l + 1) 0 (-1, 0) (by omega)
  rw [e]
  have nn : ∀ l' k m', k ≤ 64 ∨ l' = l ∧ r ≤ k → (cutA (ans ws cs) l r l' k m').1 = -1 ∨ 0 ≤ (cutA (ans ws cs) l r l' k m').1 := fun l' k m' hk => by
    by_cases hc : l' = l ∧ r ≤ k
    · exact Or.inl (by unfold cutA; rw [if_pos hc])
    · rw [cutA_of _ hc]
      exact ans_nn h m' (hk.resolve_right hc)
  have q := loop_le (A := cutA (ans ws cs) l r) (ws := ws) (cs := cs) (l := l) (r := r) (m := m) (fun k m' => nn k r m' (Or.inl hr)) (fun k => nn l k m (by omega)) (fun i => (cs_bd h i).1) k0 hk0 (by rw [cutA_of _ (by omega)]; exact fa) (by rw [cutA_of _ (by omega)]; exact fb) hs (r - (l + 1)) (l + 1) 0 (-1, 0) (by omega) (by omega) (by omega) (by rw [show l + 1 - 1 - l = 0 from by omega]; rfl)
  rw [cutA_of _ (by omega), cutA_of _ (by omega)] at q
  exact q
theorem ans_mono {ws cs : List Int} (h : Rt ws cs) : ∀ (d l r : Nat) (m m' : Int), r - l ≤ d → l < r → r ≤ 64 → m ≤ m' → (ans ws cs l r m).1 ≠ -1 → (ans ws cs l r m').1 ≠ -1 ∧ (ans ws cs l r m').1 ≤ (ans ws cs l r m).1
  | 0, _, _, _, _, h1, h2, _, _, _ => by omega
  | d + 1, l, r, m, m', h1, h2, hr, hm, hf => by
    by_cases he : r = l + 1
    · rw [ans_one he] at hf ⊢
      rw [ans_one he]
      unfold oneP at hf ⊢
      have : ¬ m < needOne ws cs l r := fun hh => hf (by rw [if_pos hh])
      rw [if_neg this] at hf ⊢
      rw [if_neg (by omega)]
      exact ⟨hf, Int.le_refl _⟩
    · obtain ⟨k, hc⟩ := ans_cut (by omega) hf
      have hl := hc.lo
      have hh := hc.hi
      obtain ⟨a1, a2⟩ := ans_mono h d k r (m - ws.getD k 0) (m' - ws.getD k 0) (by omega) (by omega) hr (by omega) hc.fa
      obtain ⟨b1, b2⟩ := ans_mono h d l k m m' (by omega) (by omega) (by omega) hm hc.fb
      obtain ⟨c1, c2⟩ := ans_le h hr k hl hh a1 b1 (fun i h1 h2 => Int.le_trans (hc.steps i h1 h2) hm)
      refine ⟨c1, ?_⟩
      rw [hc.cost]
      omega
theorem ans_total {ws cs : List Int} (h : Rt ws cs) : ∀ (d l : Nat) (m : Int), cs.length - l ≤ d → l < cs.length → (ans ws cs l cs.length m).1 ≠ -1 → sumC cs l (cs.length - l) ≤ (ans ws cs l cs.length m).1
  | 0, _, _, h1, h2, _ => by omega
  | d + 1, l, m, h1, h2, hf => by
    have hhi := h.hi
    by_cases he : cs.length = l + 1
    · rw [ans_one he] at hf ⊢
      unfold oneP at hf ⊢
      have : ¬ m < needOne ws cs l cs.length := fun hh => hf (by rw [if_pos hh])
      rw [if_neg this]
      unfold costOne
      rw [if_pos rfl, show cs.length - l = 0 + 1 from by omega]
      show 0 + cs.getD (l + 0) 0 ≤ cs.getD (cs.length - 1) 0
      rw [show l + 0 = cs.length - 1 from by omega]
      omega
    · obtain ⟨k, hc⟩ := ans_cut (by omega) hf
      have hl := hc.lo
      have hh := hc.hi
      have q := ans_total h d k (m - ws.getD k 0) (by omega) hh hc.fa
      have b := (ans_nn h (l := l) (r := k) m (by omega)).resolve_left hc.fb
      rw [hc.cost, show cs.length - l = (k - l) + (cs.length - k) from by omega, sumC_add, show l + (k - l) = k from by omega]
      omega
theorem ans_wide {ws cs : List Int} (h : Rt ws cs) : ∀ (d l : Nat) (m : Int), cs.length - l ≤ d → l < cs.length → oP ws l + 2 * sumC ws (l + 1) (cs.length - l) ≤ m → (ans ws cs l cs.length m).1 ≠ -1 ∧ (ans ws cs l cs.length m).1 ≤ sumC cs l (cs.length - l)
  | 0, _, _, h1, h2, _ => by omega
  | d + 1, l, m, h1, h2, hm => by
    have hhi := h.hi
    have hnn := sumC_nn (cs := ws) (fun i => (ws_bd h i).1) (l + 1)
    by_cases he : cs.length = l + 1
    · rw [ans_one he]
      unfold oneP
      rw [show cs.length - l = 0 + 1 from by omega] at hm ⊢
      have hm' : oP ws l + 2 * (0 + ws.getD (l + 1 + 0) 0) ≤ m := hm
      have hw := (ws_bd h (l + 1)).1
      rw [show l + 1 + 0 = l + 1 from rfl] at hm'
      rw [if_neg (by unfold needOne; rw [if_pos rfl, he]; omega)]
      unfold costOne
      rw [if_pos rfl]
      have hc := (cs_bd h (cs.length - 1)).1
      refine ⟨by simp only; omega, ?_⟩
      show cs.getD (cs.length - 1) 0 ≤ 0 + cs.getD (l + 0) 0
      rw [show l + 0 = cs.length - 1 from by omega]
      omega
    · have hs : sumC ws (l + 1) (cs.length - l) = ws.getD (l + 1) 0 + sumC ws (l + 1 + 1) (cs.length - (l + 1)) := by
        rw [show cs.length - l = 1 + (cs.length - (l + 1)) from by omega, sumC_add]
        simp [sumC]
      rw [hs] at hm
      clear hnn
      have hnn2 := sumC_nn (cs := ws) (fun i => (ws_bd h i).1) (l + 1 + 1) (cs.length - (l + 1))
      have hw := (ws_bd h (l + 1)).1
      have ho := (oP_bd h l).1
      have hol : oP ws (l + 1) = ws.getD (l + 1) 0 := by unfold oP; rw [if_neg (by omega)]
      obtain ⟨a1, a2⟩ := ans_wide h d (l + 1) (m - ws.getD (l + 1) 0) (by omega) (by omega) (by rw [hol]; omega)
      have hb : ans ws cs l (l + 1) m = (0, 0) := by
        rw [ans_one rfl]
        unfold oneP
        rw [if_neg (by unfold needOne gP; rw [if_neg (by omega), if_neg (by omega)]; omega)]
        unfold costOne
        rw [if_neg (by omega)]
      obtain ⟨c1, c2⟩ := ans_le (l := l) (r := cs.length) h hhi (l + 1) (m := m) (by omega) (by omega) a1 (by rw [hb]; simp) (fun i h1 h2 => by
        obtain rfl : i = l := by omega
        unfold needStep gP
        rw [if_neg (by omega), if_pos rfl]
        omega)
      refine ⟨c1, Int.le_trans c2 ?_⟩
      rw [hb, show l + 1 - l = 1 from by omega, show cs.length - l = 1 + (cs.length - (l + 1)) from by omega, sumC_add]
      simp only
      omega
theorem ans_need {ws cs : List Int} (h : Rt ws cs) : ∀ (d l r : Nat) (m : Int), r - l ≤ d → l < r → r ≤ cs.length → (ans ws cs l r m).1 ≠ -1 → oP ws l ≤ m
  | 0, _, _, _, h1, h2, _, _ => by omega
  | d + 1, l, r, m, h1, h2, hr, hf => by
    have hhi := h.hi
    by_cases he : r = l + 1
    · rw [ans_one he] at hf
      unfold oneP at hf
      have : ¬ m < needOne ws cs l r := fun hh => hf (by rw [if_pos hh])
      unfold needOne at this
      have h3 := (ws_bd h r).1
      have h4 := (gP_bd h r).1
      split at this <;> omega
    · obtain ⟨k, hc⟩ := ans_cut (by omega) hf
      exact ans_need h d l k m (by have := hc.hi; omega) hc.lo (by have := hc.hi; omega) hc.fb
end Go.Proofs.Ytiejdbdbafmccaa
/- part PChx1 -/
namespace Go.Proofs.Ytiejdbdbafmccaa.PCh
open Go.RowKit Go.Proofs.YtiejdbdbafmccaaW.PrintWords Go.Proofs.YtiejdbdbafmccaaW.PrintLast Go.Proofs.YtiejdbdbafmccaaW.PrintMore
attribute [local go_sem] max2_int min2_int max_two min_two max_three min_three max_four min_four
set_option linter.unusedVariables false
set_option linter.unusedSimpArgs false
def athanorref02_Right.f (a0 : Int) : Option (Bool) := if a0 ≥ 0 then (some (decide (a0 ≤ 1099511627776))) else (some false)
set_option maxHeartbeats 8000000 in
set_option maxRecDepth 100000 in
theorem athanorref02_Right.calls (a0 : Int) (r : Bool) (w : World) (h : athanorref02_Right.f a0 = some r) :
    Calls Try.prog 27 #[.int .i64 a0] w fun e w' => e = .returned (.bool r) ∧ Drawn0 w w' := by
  have H : (if a0 ≥ 0 then (some (decide (a0 ≤ 1099511627776))) else (some false)) = some r := h
  clear h
  by_cases c2 : a0 ≥ 0
  · rw [if_pos c2] at H
    have c2b0 : decide (0 ≤ a0) = true := decide_eq_true c2
    clear c2
    obtain rfl := Option.some.inj H
    go_enter Try.func27, Try.ntmps27
    go_wp2
    go_ret
    exact ⟨by first | rfl | (simp; done) | (simp [*]; done), by repeat (first | exact Drawn0.refl _ | apply Drawn0.step)⟩
  · rw [if_neg c2] at H
    have c2b0 : decide (0 ≤ a0) = false := decide_eq_false c2
    clear c2
    obtain rfl := Option.some.inj H
    go_enter Try.func27, Try.ntmps27
    go_wp2
    go_ret
    exact ⟨by first | rfl | (simp; done) | (simp [*]; done), by repeat (first | exact Drawn0.refl _ | apply Drawn0.step)⟩
end Go.Proofs.Ytiejdbdbafmccaa.PCh
/- part PChx2 -/
namespace Go.Proofs.Ytiejdbdbafmccaa.PCh
open Go.RowKit Go.Proofs.YtiejdbdbafmccaaW.PrintWords Go.Proofs.YtiejdbdbafmccaaW.PrintLast Go.Proofs.YtiejdbdbafmccaaW.PrintMore
attribute [local go_sem] max2_int min2_int max_two min_two max_three min_three max_four min_four
set_option linter.unusedVariables false
set_option linter.unusedSimpArgs false
mutual
def athanorlaw20_right.j0 : Nat → Bool → List Int → List Int → Option (Bool)
  | 0, _, _, _ => none
  | k + 1, x24, x102000, x102001 => if x24 = true then (some false) else (athanorlaw20_right.l0 k x102000 (x102000.length : Int) 0 x102000 x102001)
def athanorlaw20_right.l0 : Nat → List Int → Int → Int → List Int → List Int → Option (Bool)
  | 0, _, _, _, _, _ => none
  | k + 1, x26, x27, x28, x102000, x102001 => if x28 < x27 then (if 0 ≤ x28 then (if x28 < (x26.length : Int) then (if (rd x26 x28) < 1 then (some false) else (if (rd x26 x28) > 65536 then (some false) else (athanorlaw20_right.l0 k x26 x27 (wrap64 (x28 + 1)) x102000 x102001))) else (none)) else (none)) else (athanorlaw20_right.l1 k x102001 (x102001.length : Int) 0)
def athanorlaw20_right.l1 : Nat → List Int → Int → Int → Option (Bool)
  | 0, _, _, _ => none
  | k + 1, x40, x41, x42 => if x42 < x41 then (if 0 ≤ x42 then (if x42 < (x40.length : Int) then ((athanorref02_Right.f (rd x40 x42)).bind fun t104 => (if t104 = true then (athanorlaw20_right.l1 k x40 x41 (wrap64 (x42 + 1))) else (some false))) else (none)) else (none)) else (some true)
end
def athanorlaw20_right.f (k : Nat) (l0_0 : List Int) (l0_1 : List Int) : Option (Bool) := if (l0_1.length : Int) < 1 then (athanorlaw20_right.j0 k true l0_0 l0_1) else (if (l0_1.length : Int) > 64 then (athanorlaw20_right.j0 k true l0_0 l0_1) else (athanorlaw20_right.j0 k ((l0_0.length : Int) != (wrap64 ((l0_1.length : Int) + 1))) l0_0 l0_1))
theorem athanorlaw20_right.mono_l : ∀ k, (∀ y0 y1 y2, LeO (athanorlaw20_right.j0 k y0 y1 y2) (athanorlaw20_right.j0 (k + 1) y0 y1 y2)) ∧ (∀ y0 y1 y2 y3 y4, LeO (athanorlaw20_right.l0 k y0 y1 y2 y3 y4) (athanorlaw20_right.l0 (k + 1) y0 y1 y2 y3 y4)) ∧ (∀ y0 y1 y2, LeO (athanorlaw20_right.l1 k y0 y1 y2) (athanorlaw20_right.l1 (k + 1) y0 y1 y2))
  | 0 => ⟨fun _ _ _ r h => by simp [athanorlaw20_right.j0] at h, fun _ _ _ _ _ r h => by simp [athanorlaw20_right.l0] at h, fun _ _ _ r h => by simp [athanorlaw20_right.l1] at h⟩
  | k + 1 => by
    obtain ⟨ih0, ih1, ih2⟩ := athanorlaw20_right.mono_l k
    refine ⟨?_, ?_, ?_⟩
    · intro y0 y1 y2
      unfold athanorlaw20_right.j0
      repeat' first
      | (with_reducible exact ih0 _ _ _)
      | (with_reducible exact ih1 _ _ _ _ _)
      | (with_reducible exact ih2 _ _ _)
      | (with_reducible exact LeO.refl _)
      | (with_reducible exact LeO.none _)
      | (with_reducible refine LeO.ite ?_ ?_)
      | (with_reducible refine LeO.bind ?_ (fun _ => ?_))
      | exact ih0 _ _ _
      | exact ih1 _ _ _ _ _
      | exact ih2 _ _ _
      | exact LeO.none _
      | refine LeO.ite ?_ ?_
      | refine LeO.bind ?_ (fun _ => ?_)
    · intro y0 y1 y2 y3 y4
      unfold athanorlaw20_right.l0
      repeat' first
      | (with_reducible exact ih0 _ _ _)
      | (with_reducible exact ih1 _ _ _ _ _)
      | (with_reducible exact ih2 _ _ _)
      | (with_reducible exact LeO.refl _)
      | (with_reducible exact LeO.none _)
      | (with_reducible refine LeO.ite ?_ ?_)
      | (with_reducible refine LeO.bind ?_ (fun _ => ?_))
      | exact ih0 _ _ _
      | exact ih1 _ _ _ _ _
      | exact ih2 _ _ _
      | exact LeO.none _
      | refine LeO.ite ?_ ?_
      | refine LeO.bind ?_ (fun _ => ?_)
    · intro y0 y1 y2
      unfold athanorlaw20_right.l1
      repeat' first
      | (with_reducible exact ih0 _ _ _)
      | (with_reducible exact ih1 _ _ _ _ _)
      | (with_reducible exact ih2 _ _ _)
      | (with_reducible exact LeO.refl _)
      | (with_reducible exact LeO.none _)
      | (with_reducible refine LeO.ite ?_ ?_)
      | (with_reducible refine LeO.bind ?_ (fun _ => ?_))
      | exact ih0 _ _ _
      | exact ih1 _ _ _ _ _
      | exact ih2 _ _ _
      | exact LeO.none _
      | refine LeO.ite ?_ ?_
      | refine LeO.bind ?_ (fun _ => ?_)
theorem athanorlaw20_right.mono : ∀ a0 a1 k, LeO (athanorlaw20_right.f k a0 a1) (athanorlaw20_right.f (k + 1) a0 a1) := by
  intro a0 a1 k
  obtain ⟨ih0, ih1, ih2⟩ := athanorlaw20_right.mono_l k
  unfold athanorlaw20_right.f
  repeat' first
      | (with_reducible exact ih0 _ _ _)
      | (with_reducible exact ih1 _ _ _ _ _)
      | (with_reducible exact ih2 _ _ _)
      | (with_reducible exact LeO.refl _)
      | (with_reducible exact LeO.none _)
      | (with_reducible refine LeO.ite ?_ ?_)
      | (with_reducible refine LeO.bind ?_ (fun _ => ?_))
      | exact ih0 _ _ _
      | exact ih1 _ _ _ _ _
      | exact ih2 _ _ _
      | exact LeO.none _
      | refine LeO.ite ?_ ?_
      | refine LeO.bind ?_ (fun _ => ?_)
set_option maxHeartbeats 8000000 in
set_option maxRecDepth 100000 in
theorem athanorlaw20_right.calls (k : Nat) (A0_0 : Option Addr) (c0_0 : Nat) (l0_0 : List Int) (A0_1 : Option Addr) (c0_1 : Nat) (l0_1 : List Int) (r : Bool) (w : World) (hr0_0 : Kd.C (Kd.int .i64) w A0_0 l0_0.length l0_0) (hc0_0 : l0_0.length ≤ c0_0) (hr0_1 : Kd.C (Kd.int .i64) w A0_1 l0_1.length l0_1) (hc0_1 : l0_1.length ≤ c0_1) (h : athanorlaw20_right.f k l0_0 l0_1 = some r) :
    Calls Try.prog 14 #[.agg #[.slice A0_0 l0_0.length c0_0, .slice A0_1 l0_1.length c0_1]] w fun e w' => e = .returned (.bool r) ∧ Below w.heap.size w w' := by
  have hu24 := Try.underlying24
  have HR0_0 := Aside0.mk hr0_0
  have HC0_0 := Aside0.mk hc0_0
  clear hr0_0 hc0_0
  have HR0_1 := Aside0.mk hr0_1
  have HC0_1 := Aside0.mk hc0_1
  clear hr0_1 hc0_1
  have HB := Aside0.mk (Below.refl w.heap.size w)
  have H : (if (l0_1.length : Int) < 1 then (athanorlaw20_right.j0 k true l0_0 l0_1) else (if (l0_1.length : Int) > 64 then (athanorlaw20_right.j0 k true l0_0 l0_1) else (athanorlaw20_right.j0 k ((l0_0.length : Int) != (wrap64 ((l0_1.length : Int) + 1))) l0_0 l0_1))) = some r := h
  clear h
  have HC2 := Aside0.mk H
  clear H
  go_enter Try.func14, Try.ntmps14
  go_upto_region 2 with (first | ((with_reducible refine gate_dst (N := 1) rfl ?_); (try (refine gate_guard (by rfl) ?_; dsimp only)); refine box_event ?hg (N := 1) ?hd (cs := #[.slice A0_0 l0_0.length c0_0, .slice A0_1 l0_1.length c0_1]) (t := 24) ?hr ?_; (case hd => rfl); (case hg => rfl); (case hr => first | (go_simp; done) | (go_simp; rfl)); intro gb101 hg w3 hbox hb; have n0_ := Aside0.mk (below_step (by repeat (first | (with_reducible first | exact HB.out | apply below_alloc | apply pw_below_drewN | apply below_drew1) | exact HB.out)) hb); have n1_ := Aside0.mk (hbox); have n2_ := Aside0.mk ((by rw [hg]; exact (below_size (by repeat (first | (with_reducible first | exact HB.out | apply below_alloc | apply pw_below_drewN | apply below_drew1) | exact HB.out))) : w.heap.size ≤ gb101)); have n3_ := Aside0.mk ((by rw [hg]; exact (below_size (by repeat (first | (with_reducible first | exact HB.out | apply below_alloc | apply pw_below_drewN | apply below_drew1) | exact HB.out))) : w.heap.size ≤ gb101)); clear HB; have HB := n0_; have BK101 := n1_; have GW101 := n2_; have GE101 := n3_; clear n0_ n1_ n2_ n3_; clear hb hbox hg; have hcz4_0 : w3.cell? ⟨gb101, 0, none⟩ = some (.slice A0_0 l0_0.length c0_0) := (blk_cell BK101.out 0).trans rfl; have hcz4_1 : w3.cell? ⟨gb101, 1, none⟩ = some (.slice A0_1 l0_1.length c0_1) := (blk_cell BK101.out 1).trans rfl; have hfz4_0 := blk_frozen BK101.out 0; have hfz4_1 := blk_frozen BK101.out 1))
  (try simp only [Act.put, List.setIfInBounds_toArray, List.set_cons_zero, List.set_cons_succ])
  go_cut [24] (fun v24 wc => ∃ (kq : Nat) (x24_1 : Bool), v24 = .bool x24_1 ∧ Aside0 (athanorlaw20_right.j0 kq x24_1 l0_0 l0_1 = some r) ∧ Aside0 (kq ≤ k) ∧ Aside0 (wc.heap[gb101]? = some (.cells #[(.slice A0_0 l0_0.length c0_0), (.slice A0_1 l0_1.length c0_1)] 24 (0, 0))) ∧ Aside0 (Below w.heap.size w wc))
  case first =>
    have H := HC2.out
    clear HC2
    by_cases c5 : (l0_1.length : Int) < 1
    · rw [if_pos c5] at H
      have c5b0 : decide ((l0_1.length : Int) < 1) = true := decide_eq_true c5
      have c5b1 : decide (l0_1.length < 1) = true := decide_eq_true (by omega)
      clear c5
      (first | rw [c5b0] | (simp only [i64_w, i32_w]; rw [c5b0]) | skip)
      have H' := Aside0.mk H
      clear H
      go_wp2
      go_meet
      case rel => exact ⟨_, (true), (by first | rfl | (simp; done) | (simp [*]; done)), H', ⟨by first | omega | exact Nat.le_refl _⟩, ⟨by (with_reducible repeat (first | refine blk_drewN ?_ _ | refine blk_drew ?_ | refine blk_alloc ?_ _)); exact BK101.out⟩, ⟨by repeat (first | (with_reducible first | exact HB.out | apply below_alloc | apply pw_below_drewN | apply below_drew1 | refine below_set ?_ GE101.out) | exact HB.out)⟩⟩
    · rw [if_neg c5] at H
      have c5b0 : decide ((l0_1.length : Int) < 1) = false := decide_eq_false c5
      have c5b1 : decide (l0_1.length < 1) = false := decide_eq_false (by omega)
      clear c5
      (first | rw [c5b0] | (simp only [i64_w, i32_w]; rw [c5b0]) | skip)
      by_cases c6 : (l0_1.length : Int) > 64
      · rw [if_pos c6] at H
        have c6b0 : decide (64 < (l0_1.length : Int)) = true := decide_eq_true c6
        have c6b1 : decide (64 < l0_1.length) = true := decide_eq_true (by omega)
        clear c6
        have H' := Aside0.mk H
        clear H
        go_wp2
        go_meet
        case rel => exact ⟨_, (true), (by first | rfl | (simp; done) | (simp [*]; done)), H', ⟨by first | omega | exact Nat.le_refl _⟩, ⟨by (with_reducible repeat (first | refine blk_drewN ?_ _ | refine blk_drew ?_ | refine blk_alloc ?_ _)); exact BK101.out⟩, ⟨by repeat (first | (with_reducible first | exact HB.out | apply below_alloc | apply pw_below_drewN | apply below_drew1 | refine below_set ?_ GE101.out) | exact HB.out)⟩⟩
      · rw [if_neg c6] at H
        have c6b0 : decide (64 < (l0_1.length : Int)) = false := decide_eq_false c6
        have c6b1 : decide (64 < l0_1.length) = false := decide_eq_false (by omega)
        clear c6
        have H' := Aside0.mk H
        clear H
        have hcz7_0 : w3.cell? ⟨gb101, 0, none⟩ = some (.slice A0_0 l0_0.length c0_0) := (blk_cell BK101.out 0).trans rfl
        have hcz7_1 : w3.cell? ⟨gb101, 1, none⟩ = some (.slice A0_1 l0_1.length c0_1) := (blk_cell BK101.out 1).trans rfl
        have hfz7_0 := blk_frozen BK101.out 0
        have hfz7_1 := blk_frozen BK101.out 1
        go_wp2
        go_meet
        case rel => exact ⟨_, (((l0_0.length : Int) != (wrap64 ((l0_1.length : Int) + 1)))), (by first | rfl | (simp; done) | (simp [*]; done)), H', ⟨by first | omega | exact Nat.le_refl _⟩, ⟨by (with_reducible repeat (first | refine blk_drewN ?_ _ | refine blk_drew ?_ | refine blk_alloc ?_ _)); exact BK101.out⟩, ⟨by repeat (first | (with_reducible first | exact HB.out | apply below_alloc | apply pw_below_drewN | apply below_drew1 | refine below_set ?_ GE101.out) | exact HB.out)⟩⟩
  case rest =>
    clear HC2
    try clear c1
    try clear p2
    try clear c5
    try clear c5b0
    try clear c5b1
    try clear c6
    try clear c6b0
    try clear c6b1
    try clear p6
    try clear hcz4_0
    try clear hcz4_1
    try clear hcz7_0
    try clear hcz7_1
    try clear hfz4_0
    try clear hfz4_1
    try clear hfz7_0
    try clear hfz7_1
    obtain ⟨kq, x24_1, rfl, HA, HJ1, BK101, HB⟩ := hcut
    cases kq with
    | zero => exact absurd HA.out (by simp [athanorlaw20_right.j0])
    | succ kj1 =>
      have H := HA.out
      clear HA
      simp only [athanorlaw20_right.j0] at H
      by_cases c8 : x24_1 = true
      · subst c8
        have H1 : (some false) = some r := by rw [if_pos rfl] at H; exact H
        clear H
        have H := H1
        clear H1
        obtain rfl := Option.some.inj H
        go_wp2
        go_ret
        exact ⟨by first | rfl | (simp [errW_none, errW_some] <;> rfl) | (simp [*, errW_none, errW_some] <;> rfl), by repeat (first | (with_reducible first | exact HB.out | apply below_alloc | apply pw_below_drewN | apply below_drew1 | refine below_set ?_ GE101.out) | exact HB.out)⟩
      · replace c8 := Bool.eq_false_iff.mpr c8
        subst c8
        have H1 : (athanorlaw20_right.l0 kj1 l0_0 (l0_0.length : Int) 0 l0_0 l0_1) = some r := by rw [if_neg (show ¬ (false = true) by decide)] at H; exact H
        clear H
        have H := H1
        clear H1
        have H' := Aside0.mk H
        clear H
        have hcz9_0 : wc.cell? ⟨gb101, 0, none⟩ = some (.slice A0_0 l0_0.length c0_0) := (blk_cell BK101.out 0).trans rfl
        have hcz9_1 : wc.cell? ⟨gb101, 1, none⟩ = some (.slice A0_1 l0_1.length c0_1) := (blk_cell BK101.out 1).trans rfl
        have hfz9_0 := blk_frozen BK101.out 0
        have hfz9_1 := blk_frozen BK101.out 1
        go_wp2
        go_loopg [28] kj1 (fun kq v28 w' => ∃ (x28_2 : Int), v28 = .int .i64 x28_2 ∧ Aside0 (athanorlaw20_right.l0 kq l0_0 (l0_0.length : Int) x28_2 l0_0 l0_1 = some r) ∧ Aside0 (kq ≤ kj1) ∧ Aside0 (w'.heap[gb101]? = some (.cells #[(.slice A0_0 l0_0.length c0_0), (.slice A0_1 l0_1.length c0_1)] 24 (0, 0))) ∧ Aside0 (Below w.heap.size w w'))
        case atStart => exact ⟨(0), (by first | rfl | (simp; done) | (simp [*]; done)), H', ⟨Nat.le_refl _⟩, ⟨by (with_reducible repeat (first | refine blk_drewN ?_ _ | refine blk_drew ?_ | refine blk_alloc ?_ _)); exact BK101.out⟩, ⟨by repeat (first | (with_reducible first | exact HB.out | apply below_alloc | apply pw_below_drewN | apply below_drew1 | refine below_set ?_ GE101.out) | exact HB.out)⟩⟩
        case round =>
          clear H'
          try clear c1
          try clear p2
          try clear c5
          try clear c5b0
          try clear c5b1
          try clear c6
          try clear c6b0
          try clear c6b1
          try clear p6
          try clear c8
          try clear hcz4_0
          try clear hcz4_1
          try clear hcz7_0
          try clear hcz7_1
          try clear hcz9_0
          try clear hcz9_1
          try clear hfz4_0
          try clear hfz4_1
          try clear hfz7_0
          try clear hfz7_1
          try clear hfz9_0
          try clear hfz9_1
          try clear p2
          try clear p6
          obtain ⟨x28_2, rfl, HA, HK2, BK101, HB⟩ := hrel
          cases gk with
          | zero => exact absurd HA.out (by simp [athanorlaw20_right.l0])
          | succ k2 =>
            have H := HA.out
            clear HA
            simp only [athanorlaw20_right.l0] at H
            by_cases c10 : x28_2 < (l0_0.length : Int)
            · rw [if_pos c10] at H
              have c10b0 : decide (x28_2 < (l0_0.length : Int)) = true := decide_eq_true c10
              clear c10
              by_cases c11 : 0 ≤ x28_2
              · rw [if_pos c11] at H
                have c11b0 : decide (0 ≤ x28_2) = true := decide_eq_true c11
                clear c11
                by_cases c12 : x28_2 < (l0_0.length : Int)
                · rw [if_pos c12] at H
                  have c12b0 : decide (x28_2 < (l0_0.length : Int)) = true := decide_eq_true c12
                  clear c12
                  by_cases c13 : (rd l0_0 x28_2) < 1
                  · rw [if_pos c13] at H
                    have c13b0 : decide ((rd l0_0 x28_2) < 1) = true := decide_eq_true c13
                    clear c13
                    obtain rfl := Option.some.inj H
                    have p102 : 0 ≤ (x28_2 : Int) := of_decide_eq_true (by first | (with_reducible assumption) | assumption)
                    have q102 : x28_2 < (l0_0.length : Int) := of_decide_eq_true (by first | (with_reducible assumption) | assumption)
                    obtain ⟨ad102, e102, hx102_0⟩ := Kd.at_int HR0_0.out x28_2 p102 q102
                    cases e102
                    replace hx102_0 := (HB.out.cell (World.block_lt_of_cell? w _ hx102_0)).trans hx102_0
                    replace p102 := eq_true p102
                    replace q102 := eq_true q102
                    go_wp2
                    go_ret
                    exact ⟨by first | rfl | (simp [errW_none, errW_some] <;> rfl) | (simp [*, errW_none, errW_some] <;> rfl), by repeat (first | (with_reducible first | exact HB.out | apply below_alloc | apply pw_below_drewN | apply below_drew1 | refine below_set ?_ GE101.out) | exact HB.out)⟩
                  · rw [if_neg c13] at H
                    have c13b0 : decide ((rd l0_0 x28_2) < 1) = false := decide_eq_false c13
                    clear c13
                    by_cases c14 : (rd l0_0 x28_2) > 65536
                    · rw [if_pos c14] at H
                      have c14b0 : decide (65536 < (rd l0_0 x28_2)) = true := decide_eq_true c14
                      clear c14
                      obtain rfl := Option.some.inj H
                      have p102 : 0 ≤ (x28_2 : Int) := of_decide_eq_true (by first | (with_reducible assumption) | assumption)
                      have q102 : x28_2 < (l0_0.length : Int) := of_decide_eq_true (by first | (with_reducible assumption) | assumption)
                      obtain ⟨ad102, e102, hx102_0⟩ := Kd.at_int HR0_0.out x28_2 p102 q102
                      cases e102
                      replace hx102_0 := (HB.out.cell (World.block_lt_of_cell? w _ hx102_0)).trans hx102_0
                      replace p102 := eq_true p102
                      replace q102 := eq_true q102
                      go_wp2
                      go_ret
                      exact ⟨by first | rfl | (simp [errW_none, errW_some] <;> rfl) | (simp [*, errW_none, errW_some] <;> rfl), by repeat (first | (with_reducible first | exact HB.out | apply below_alloc | apply pw_below_drewN | apply below_drew1 | refine below_set ?_ GE101.out) | exact HB.out)⟩
                    · rw [if_neg c14] at H
                      have c14b0 : decide (65536 < (rd l0_0 x28_2)) = false := decide_eq_false c14
                      clear c14
                      have H' := Aside0.mk H
                      clear H
                      have p102 : 0 ≤ (x28_2 : Int) := of_decide_eq_true (by first | (with_reducible assumption) | assumption)
                      have q102 : x28_2 < (l0_0.length : Int) := of_decide_eq_true (by first | (with_reducible assumption) | assumption)
                      obtain ⟨ad102, e102, hx102_0⟩ := Kd.at_int HR0_0.out x28_2 p102 q102
                      cases e102
                      replace hx102_0 := (HB.out.cell (World.block_lt_of_cell? w _ hx102_0)).trans hx102_0
                      replace p102 := eq_true p102
                      replace q102 := eq_true q102
                      go_wp2
                      go_roundg k2
                      case measure => have := HJ1.out; have := HK2.out; omega
                      case rel => exact ⟨(wrap64 (x28_2 + 1)), (by first | rfl | (simp; done) | (simp [*]; done)), H', ⟨by have := HJ1.out; have := HK2.out; omega⟩, ⟨by (with_reducible repeat (first | refine blk_drewN ?_ _ | refine blk_drew ?_ | refine blk_alloc ?_ _)); exact BK101.out⟩, ⟨by repeat (first | (with_reducible first | exact HB.out | apply below_alloc | apply pw_below_drewN | apply below_drew1 | refine below_set ?_ GE101.out) | exact HB.out)⟩⟩
                · rw [if_neg c12] at H
                  exact absurd H (by simp)
              · rw [if_neg c11] at H
                exact absurd H (by simp)
            · rw [if_neg c10] at H
              have c10b0 : decide (x28_2 < (l0_0.length : Int)) = false := decide_eq_false c10
              clear c10
              have H' := Aside0.mk H
              clear H
              have hcz15_0 : wr.cell? ⟨gb101, 0, none⟩ = some (.slice A0_0 l0_0.length c0_0) := (blk_cell BK101.out 0).trans rfl
              have hcz15_1 : wr.cell? ⟨gb101, 1, none⟩ = some (.slice A0_1 l0_1.length c0_1) := (blk_cell BK101.out 1).trans rfl
              have hfz15_0 := blk_frozen BK101.out 0
              have hfz15_1 := blk_frozen BK101.out 1
              go_wp2
              go_loopg [42] k2 (fun kq v42 w' => ∃ (x42_3 : Int), v42 = .int .i64 x42_3 ∧ Aside0 (athanorlaw20_right.l1 kq l0_1 (l0_1.length : Int) x42_3 = some r) ∧ Aside0 (kq ≤ k2) ∧ Aside0 (w'.heap[gb101]? = some (.cells #[(.slice A0_0 l0_0.length c0_0), (.slice A0_1 l0_1.length c0_1)] 24 (0, 0))) ∧ Aside0 (Below w.heap.size w w'))
              case atStart => exact ⟨(0), (by first | rfl | (simp; done) | (simp [*]; done)), H', ⟨Nat.le_refl _⟩, ⟨by (with_reducible repeat (first | refine blk_drewN ?_ _ | refine blk_drew ?_ | refine blk_alloc ?_ _)); exact BK101.out⟩, ⟨by repeat (first | (with_reducible first | exact HB.out | apply below_alloc | apply pw_below_drewN | apply below_drew1 | refine below_set ?_ GE101.out) | exact HB.out)⟩⟩
              case round =>
                clear H'
                try clear c1
                try clear p1
                try clear q1
                try clear hx1
                try clear p2
                try clear c5
                try clear c5b0
                try clear c5b1
                try clear c6
                try clear c6b0
                try clear c6b1
                try clear p6
                try clear c8
                try clear c10
                try clear c10b0
                try clear p10
                try clear q10
                try clear hx10
                try clear c11
                try clear c11b0
                try clear c12
                try clear c12b0
                try clear c13
                try clear c13b0
                try clear c14
                try clear c14b0
                try clear hcz15_0
                try clear hcz15_1
                try clear hcz4_0
                try clear hcz4_1
                try clear hcz7_0
                try clear hcz7_1
                try clear hcz9_0
                try clear hcz9_1
                try clear hfz15_0
                try clear hfz15_1
                try clear hfz4_0
                try clear hfz4_1
                try clear hfz7_0
                try clear hfz7_1
                try clear hfz9_0
                try clear hfz9_1
                try clear hx102_0
                try clear p102
                try clear p2
                try clear p6
                try clear q102
                obtain ⟨x42_3, rfl, HA, HK3, BK101, HB⟩ := hrel
                cases gk with
                | zero => exact absurd HA.out (by simp [athanorlaw20_right.l1])
                | succ k3 =>
                  have H := HA.out
                  clear HA
                  simp only [athanorlaw20_right.l1] at H
                  by_cases c16 : x42_3 < (l0_1.length : Int)
                  · rw [if_pos c16] at H
                    have c16b0 : decide (x42_3 < (l0_1.length : Int)) = true := decide_eq_true c16
                    clear c16
                    by_cases c17 : 0 ≤ x42_3
                    · rw [if_pos c17] at H
                      have c17b0 : decide (0 ≤ x42_3) = true := decide_eq_true c17
                      clear c17
                      by_cases c18 : x42_3 < (l0_1.length : Int)
                      · rw [if_pos c18] at H
                        have c18b0 : decide (x42_3 < (l0_1.length : Int)) = true := decide_eq_true c18
                        clear c18
                        replace H := Option.bind_eq_some_iff.mp H
                        obtain ⟨t104, A190, H⟩ := H
                        replace H : (if t104 = true then (athanorlaw20_right.l1 k3 l0_1 (l0_1.length : Int) (wrap64 (x42_3 + 1))) else (some false)) = some r := H
                        have A19 := Aside0.mk A190
                        clear A190
                        by_cases c20 : t104 = true
                        · subst c20
                          have H1 : (athanorlaw20_right.l1 k3 l0_1 (l0_1.length : Int) (wrap64 (x42_3 + 1))) = some r := by rw [if_pos rfl] at H; exact H
                          clear H
                          have H := H1
                          clear H1
                          have H' := Aside0.mk H
                          clear H
                          have p103 : 0 ≤ (x42_3 : Int) := of_decide_eq_true (by first | (with_reducible assumption) | assumption)
                          have q103 : x42_3 < (l0_1.length : Int) := of_decide_eq_true (by first | (with_reducible assumption) | assumption)
                          obtain ⟨ad103, e103, hx103_0⟩ := Kd.at_int HR0_1.out x42_3 p103 q103
                          cases e103
                          replace hx103_0 := (HB.out.cell (World.block_lt_of_cell? w _ hx103_0)).trans hx103_0
                          replace p103 := eq_true p103
                          replace q103 := eq_true q103
                          go_wp2_with (first | ((with_reducible refine gate_callee (f := 27) rfl ?_); refine goesL_ (some 47) rfl rfl Try.func27 (by kernel_rfl) rfl #[.int .i64 (rd l0_1 x42_3)] rfl (by (try simp only [List.map_toArray, List.map_cons, List.map_nil]); first | done | rfl | (simp only [List.length_drop, List.length_take]; rfl)) ?_; (with_reducible refine (athanorref02_Right.calls (rd l0_1 x42_3) true _ A19.out).mono ?_); rintro e w' ⟨rfl, ⟨nd, rfl⟩⟩; refine ⟨_, rfl, ?_⟩))
                          go_roundg k3
                          case measure => have := HJ1.out; have := HK2.out; have := HK3.out; omega
                          case rel => exact ⟨(wrap64 (x42_3 + 1)), (by first | rfl | (simp; done) | (simp [*]; done)), H', ⟨by have := HJ1.out; have := HK2.out; have := HK3.out; omega⟩, ⟨by (with_reducible repeat (first | refine blk_drewN ?_ _ | refine blk_drew ?_ | refine blk_alloc ?_ _)); exact BK101.out⟩, ⟨by repeat (first | (with_reducible first | exact HB.out | apply below_alloc | apply pw_below_drewN | apply below_drew1 | refine below_set ?_ GE101.out) | exact HB.out)⟩⟩
                        · replace c20 := Bool.eq_false_iff.mpr c20
                          subst c20
                          have H1 : (some false) = some r := by rw [if_neg (show ¬ (false = true) by decide)] at H; exact H
                          clear H
                          have H := H1
                          clear H1
                          obtain rfl := Option.some.inj H
                          have p103 : 0 ≤ (x42_3 : Int) := of_decide_eq_true (by first | (with_reducible assumption) | assumption)
                          have q103 : x42_3 < (l0_1.length : Int) := of_decide_eq_true (by first | (with_reducible assumption) | assumption)
                          obtain ⟨ad103, e103, hx103_0⟩ := Kd.at_int HR0_1.out x42_3 p103 q103
                          cases e103
                          replace hx103_0 := (HB.out.cell (World.block_lt_of_cell? w _ hx103_0)).trans hx103_0
                          replace p103 := eq_true p103
                          replace q103 := eq_true q103
                          go_wp2_with (first | ((with_reducible refine gate_callee (f := 27) rfl ?_); refine goesL_ (some 47) rfl rfl Try.func27 (by kernel_rfl) rfl #[.int .i64 (rd l0_1 x42_3)] rfl (by (try simp only [List.map_toArray, List.map_cons, List.map_nil]); first | done | rfl | (simp only [List.length_drop, List.length_take]; rfl)) ?_; (with_reducible refine (athanorref02_Right.calls (rd l0_1 x42_3) false _ A19.out).mono ?_); rintro e w' ⟨rfl, ⟨nd, rfl⟩⟩; refine ⟨_, rfl, ?_⟩))
                          go_ret
                          exact ⟨by first | rfl | (simp [errW_none, errW_some] <;> rfl) | (simp [*, errW_none, errW_some] <;> rfl), by repeat (first | (with_reducible first | exact HB.out | apply below_alloc | apply pw_below_drewN | apply below_drew1 | refine below_set ?_ GE101.out) | exact HB.out)⟩
                      · rw [if_neg c18] at H
                        exact absurd H (by simp)
                    · rw [if_neg c17] at H
                      exact absurd H (by simp)
                  · rw [if_neg c16] at H
                    have c16b0 : decide (x42_3 < (l0_1.length : Int)) = false := decide_eq_false c16
                    clear c16
                    obtain rfl := Option.some.inj H
                    go_wp2
                    go_ret
                    exact ⟨by first | rfl | (simp [errW_none, errW_some] <;> rfl) | (simp [*, errW_none, errW_some] <;> rfl), by repeat (first | (with_reducible first | exact HB.out | apply below_alloc | apply pw_below_drewN | apply below_drew1 | refine below_set ?_ GE101.out) | exact HB.out)⟩
end Go.Proofs.Ytiejdbdbafmccaa.PCh
/- part PChx5 -/
namespace Go.Proofs.Ytiejdbdbafmccaa.PCh
open Go.RowKit Go.Proofs.YtiejdbdbafmccaaW.PrintWords Go.Proofs.YtiejdbdbafmccaaW.PrintLast Go.Proofs.YtiejdbdbafmccaaW.PrintMore
attribute [local go_sem] max2_int min2_int max_two min_two max_three min_three max_four min_four
set_option linter.unusedVariables false
set_option linter.unusedSimpArgs false
def chain_Chain_Total.l0 : Nat → Int → List Int → Int → Int → Option (Int)
  | 0, _, _, _, _ => none
  | k + 1, x3, x9, x10, x11 => if x11 < x10 then (if 0 ≤ x11 then (if x11 < (x9.length : Int) then (chain_Chain_Total.l0 k (wrap64 (x3 + (rd x9 x11))) x9 x10 (wrap64 (x11 + 1))) else (none)) else (none)) else (some x3)
def chain_Chain_Total.f (k : Nat) (l0_0 : List Int) (l0_1 : List Int) : Option (Int) := (chain_Chain_Right.f l0_0 l0_1).bind fun t114 => (if t114 = true then (chain_Chain_Total.l0 k 0 l0_1 (l0_1.length : Int) 0) else (some 0))
theorem chain_Chain_Total.mono_l : ∀ k, (∀ y0 y1 y2 y3, LeO (chain_Chain_Total.l0 k y0 y1 y2 y3) (chain_Chain_Total.l0 (k + 1) y0 y1 y2 y3))
  | 0 => fun _ _ _ _ r h => by simp [chain_Chain_Total.l0] at h
  | k + 1 => by
    have ih0 := chain_Chain_Total.mono_l k
    · intro y0 y1 y2 y3
      unfold chain_Chain_Total.l0
      repeat' first
      | (with_reducible exact ih0 _ _ _ _)
      | (with_reducible exact LeO.refl _)
      | (with_reducible exact LeO.none _)
      | (with_reducible refine LeO.ite ?_ ?_)
      | (with_reducible refine LeO.bind ?_ (fun _ => ?_))
      | exact ih0 _ _ _ _
      | exact LeO.none _
      | refine LeO.ite ?_ ?_
      | refine LeO.bind ?_ (fun _ => ?_)
theorem chain_Chain_Total.mono : ∀ a0 a1 k, LeO (chain_Chain_Total.f k a0 a1) (chain_Chain_Total.f (k + 1) a0 a1) := by
  intro a0 a1 k
  have ih0 := chain_Chain_Total.mono_l k
  unfold chain_Chain_Total.f
  repeat' first
      | (with_reducible exact ih0 _ _ _ _)
      | (with_reducible exact LeO.refl _)
      | (with_reducible exact LeO.none _)
      | (with_reducible refine LeO.ite ?_ ?_)
      | (with_reducible refine LeO.bind ?_ (fun _ => ?_))
      | exact ih0 _ _ _ _
      | exact LeO.none _
      | refine LeO.ite ?_ ?_
      | refine LeO.bind ?_ (fun _ => ?_)
set_option maxHeartbeats 8000000 in
set_option maxRecDepth 100000 in
theorem chain_Chain_Total.calls (k : Nat) (A0_0 : Option Addr) (c0_0 : Nat) (l0_0 : List Int) (A0_1 : Option Addr) (c0_1 : Nat) (l0_1 : List Int) (r : Int) (w : World) (hr0_0 : Kd.C (Kd.int .i64) w A0_0 l0_0.length l0_0) (hc0_0 : l0_0.length ≤ c0_0) (hr0_1 : Kd.C (Kd.int .i64) w A0_1 l0_1.length l0_1) (hc0_1 : l0_1.length ≤ c0_1) (h : chain_Chain_Total.f k l0_0 l0_1 = some r) :
    Calls Try.prog 19 #[.agg #[.slice A0_0 l0_0.length c0_0, .slice A0_1 l0_1.length c0_1]] w fun e w' => e = .returned (.int .i64 r) ∧ Below w.heap.size w w' := by
  have hu24 := Try.underlying24
  have HR0_0 := Aside0.mk hr0_0
  have HC0_0 := Aside0.mk hc0_0
  clear hr0_0 hc0_0
  have HR0_1 := Aside0.mk hr0_1
  have HC0_1 := Aside0.mk hc0_1
  clear hr0_1 hc0_1
  have HB := Aside0.mk (Below.refl w.heap.size w)
  have H : ((chain_Chain_Right.f l0_0 l0_1).bind fun t114 => (if t114 = true then (chain_Chain_Total.l0 k 0 l0_1 (l0_1.length : Int) 0) else (some 0))) = some r := h
  clear h
  replace H := Option.bind_eq_some_iff.mp H
  obtain ⟨t114, A20, H⟩ := H
  replace H : (if t114 = true then (chain_Chain_Total.l0 k 0 l0_1 (l0_1.length : Int) 0) else (some 0)) = some r := H
  have A2 := Aside0.mk A20
  clear A20
  by_cases c3 : t114 = true
  · subst c3
    have H1 : (chain_Chain_Total.l0 k 0 l0_1 (l0_1.length : Int) 0) = some r := by rw [if_pos rfl] at H; exact H
    clear H
    have H := H1
    clear H1
    have H' := Aside0.mk H
    clear H
    go_enter Try.func19, Try.ntmps19
    go_wp2_with (first | ((with_reducible refine gate_dst (N := 1) rfl ?_); refine box_event ?hg (N := 1) ?hd (cs := #[.slice A0_0 l0_0.length c0_0, .slice A0_1 l0_1.length c0_1]) (t := 24) ?hr ?_; (case hd => rfl); (case hg => rfl); (case hr => first | (go_simp; done) | (go_simp; rfl)); intro gb113 hg w4 hbox hb; have n0_ := Aside0.mk (below_step (by repeat (first | (with_reducible first | exact HB.out | apply below_alloc | apply pw_below_drewN | apply below_drew1) | exact HB.out)) hb); have n1_ := Aside0.mk (hbox); have n2_ := Aside0.mk ((by rw [hg]; exact (below_size (by repeat (first | (with_reducible first | exact HB.out | apply below_alloc | apply pw_below_drewN | apply below_drew1) | exact HB.out))) : w.heap.size ≤ gb113)); have n3_ := Aside0.mk ((by rw [hg]; exact (below_size (by repeat (first | (with_reducible first | exact HB.out | apply below_alloc | apply pw_below_drewN | apply below_drew1) | exact HB.out))) : w.heap.size ≤ gb113)); clear HB; have HB := n0_; have BK113 := n1_; have GW113 := n2_; have GE113 := n3_; clear n0_ n1_ n2_ n3_; clear hb hbox hg; have hcz5_0 : w4.cell? ⟨gb113, 0, none⟩ = some (.slice A0_0 l0_0.length c0_0) := (blk_cell BK113.out 0).trans rfl; have hcz5_1 : w4.cell? ⟨gb113, 1, none⟩ = some (.slice A0_1 l0_1.length c0_1) := (blk_cell BK113.out 1).trans rfl; have hfz5_0 := blk_frozen BK113.out 0; have hfz5_1 := blk_frozen BK113.out 1) | ((with_reducible refine gate_callee (f := 17) rfl ?_); refine goesL_ (some 7) rfl rfl Try.func17 (by kernel_rfl) rfl #[.agg #[.slice A0_0 l0_0.length c0_0, .slice A0_1 l0_1.length c0_1]] rfl (by (try simp only [List.map_toArray, List.map_cons, List.map_nil]); first | done | rfl | (simp only [List.length_drop, List.length_take]; rfl)) ?_; (with_reducible refine (chain_Chain_Right.calls _ _ l0_0 _ _ l0_1 true _ ?side1 ?side2 ?side3 ?side4 A2.out).mono ?_); (case side1 => repeat (first | exact (Kd.C_below HR0_0.out HB.out) | (with_reducible refine Kd.C_alloc ?_ _) | (with_reducible refine Kd.C_drewN ?_ _) | (with_reducible refine Kd.C_drew ?_))); (case side2 => exact HC0_0.out); (case side3 => repeat (first | exact (Kd.C_below HR0_1.out HB.out) | (with_reducible refine Kd.C_alloc ?_ _) | (with_reducible refine Kd.C_drewN ?_ _) | (with_reducible refine Kd.C_drew ?_))); (case side4 => exact HC0_1.out); rintro e w6 ⟨rfl, hb⟩; refine ⟨_, rfl, ?_⟩; have n0_ := Aside0.mk (blk_below (g := gb113) (o := .cells #[.slice A0_0 l0_0.length c0_0, .slice A0_1 l0_1.length c0_1] 24 (0, 0)) (by (with_reducible repeat (first | refine blk_drewN ?_ _ | refine blk_drew ?_ | refine blk_alloc ?_ _)); exact BK113.out) hb); have n1_ := Aside0.mk (below_step (by repeat (first | (with_reducible first | exact HB.out | apply below_alloc | apply pw_below_drewN | apply below_drew1 | refine below_set ?_ GE113.out) | exact HB.out)) hb); clear BK113; clear HB; have BK113 := n0_; have HB := n1_; clear n0_ n1_; (try clear hb); (try clear hb2); (try clear hk); (try clear hi); have hcz7_0 : w6.cell? ⟨gb113, 0, none⟩ = some (.slice A0_0 l0_0.length c0_0) := (blk_cell BK113.out 0).trans rfl; have hcz7_1 : w6.cell? ⟨gb113, 1, none⟩ = some (.slice A0_1 l0_1.length c0_1) := (blk_cell BK113.out 1).trans rfl; have hfz7_0 := blk_frozen BK113.out 0; have hfz7_1 := blk_frozen BK113.out 1))
    go_loopg [3, 11] k (fun kq v3 v11 w' => ∃ (x3_1 : Int) (x11_1 : Int), v3 = .int .i64 x3_1 ∧ v11 = .int .i64 x11_1 ∧ Aside0 (chain_Chain_Total.l0 kq x3_1 l0_1 (l0_1.length : Int) x11_1 = some r) ∧ Aside0 (kq ≤ k) ∧ Aside0 (w'.heap[gb113]? = some (.cells #[(.slice A0_0 l0_0.length c0_0), (.slice A0_1 l0_1.length c0_1)] 24 (0, 0))) ∧ Aside0 (Below w.heap.size w w'))
    case atStart => exact ⟨(0), (0), (by first | rfl | (simp; done) | (simp [*]; done)), (by first | rfl | (simp; done) | (simp [*]; done)), H', ⟨Nat.le_refl _⟩, ⟨by (with_reducible repeat (first | refine blk_drewN ?_ _ | refine blk_drew ?_ | refine blk_alloc ?_ _)); exact BK113.out⟩, ⟨by repeat (first | (with_reducible first | exact HB.out | apply below_alloc | apply pw_below_drewN | apply below_drew1 | refine below_set ?_ GE113.out) | exact HB.out)⟩⟩
    case round =>
      clear H'
      try clear c1
      try clear p2
      try clear c3
      try clear hcz5_0
      try clear hcz5_1
      try clear hcz7_0
      try clear hcz7_1
      try clear hfz5_0
      try clear hfz5_1
      try clear hfz7_0
      try clear hfz7_1
      obtain ⟨x3_1, x11_1, rfl, rfl, HA, HK1, BK113, HB⟩ := hrel
      cases gk with
      | zero => exact absurd HA.out (by simp [chain_Chain_Total.l0])
      | succ k1 =>
        have H := HA.out
        clear HA
        simp only [chain_Chain_Total.l0] at H
        by_cases c8 : x11_1 < (l0_1.length : Int)
        · rw [if_pos c8] at H
          have c8b0 : decide (x11_1 < (l0_1.length : Int)) = true := decide_eq_true c8
          clear c8
          by_cases c9 : 0 ≤ x11_1
          · rw [if_pos c9] at H
            have c9b0 : decide (0 ≤ x11_1) = true := decide_eq_true c9
            clear c9
            by_cases c10 : x11_1 < (l0_1.length : Int)
            · rw [if_pos c10] at H
              have c10b0 : decide (x11_1 < (l0_1.length : Int)) = true := decide_eq_true c10
              clear c10
              have H' := Aside0.mk H
              clear H
              have p115 : 0 ≤ (x11_1 : Int) := of_decide_eq_true (by first | (with_reducible assumption) | assumption)
              have q115 : x11_1 < (l0_1.length : Int) := of_decide_eq_true (by first | (with_reducible assumption) | assumption)
              obtain ⟨ad115, e115, hx115_0⟩ := Kd.at_int HR0_1.out x11_1 p115 q115
              cases e115
              replace hx115_0 := (HB.out.cell (World.block_lt_of_cell? w _ hx115_0)).trans hx115_0
              replace p115 := eq_true p115
              replace q115 := eq_true q115
              go_wp2
              go_roundg k1
              case measure => have := HK1.out; omega
              case rel => exact ⟨(wrap64 (x3_1 + (rd l0_1 x11_1))), (wrap64 (x11_1 + 1)), (by first | rfl | (simp; done) | (simp [*]; done)), (by first | rfl | (simp; done) | (simp [*]; done)), H', ⟨by have := HK1.out; omega⟩, ⟨by (with_reducible repeat (first | refine blk_drewN ?_ _ | refine blk_drew ?_ | refine blk_alloc ?_ _)); exact BK113.out⟩, ⟨by repeat (first | (with_reducible first | exact HB.out | apply below_alloc | apply pw_below_drewN | apply below_drew1 | refine below_set ?_ GE113.out) | exact HB.out)⟩⟩
            · rw [if_neg c10] at H
              exact absurd H (by simp)
          · rw [if_neg c9] at H
            exact absurd H (by simp)
        · rw [if_neg c8] at H
          have c8b0 : decide (x11_1 < (l0_1.length : Int)) = false := decide_eq_false c8
          clear c8
          obtain rfl := Option.some.inj H
          go_wp2
          go_ret
          exact ⟨by first | rfl | (simp [errW_none, errW_some] <;> rfl) | (simp [*, errW_none, errW_some] <;> rfl), by repeat (first | (with_reducible first | exact HB.out | apply below_alloc | apply pw_below_drewN | apply below_drew1 | refine below_set ?_ GE113.out) | exact HB.out)⟩
  · replace c3 := Bool.eq_false_iff.mpr c3
    subst c3
    have H1 : (some 0) = some r := by rw [if_neg (show ¬ (false = true) by decide)] at H; exact H
    clear H
    have H := H1
    clear H1
    obtain rfl := Option.some.inj H
    go_enter Try.func19, Try.ntmps19
    go_wp2_with (first | ((with_reducible refine gate_dst (N := 1) rfl ?_); refine box_event ?hg (N := 1) ?hd (cs := #[.slice A0_0 l0_0.length c0_0, .slice A0_1 l0_1.length c0_1]) (t := 24) ?hr ?_; (case hd => rfl); (case hg => rfl); (case hr => first | (go_simp; done) | (go_simp; rfl)); intro gb113 hg w11 hbox hb; have n0_ := Aside0.mk (below_step (by repeat (first | (with_reducible first | exact HB.out | apply below_alloc | apply pw_below_drewN | apply below_drew1) | exact HB.out)) hb); have n1_ := Aside0.mk (hbox); have n2_ := Aside0.mk ((by rw [hg]; exact (below_size (by repeat (first | (with_reducible first | exact HB.out | apply below_alloc | apply pw_below_drewN | apply below_drew1) | exact HB.out))) : w.heap.size ≤ gb113)); have n3_ := Aside0.mk ((by rw [hg]; exact (below_size (by repeat (first | (with_reducible first | exact HB.out | apply below_alloc | apply pw_below_drewN | apply below_drew1) | exact HB.out))) : w.heap.size ≤ gb113)); clear HB; have HB := n0_; have BK113 := n1_; have GW113 := n2_; have GE113 := n3_; clear n0_ n1_ n2_ n3_; clear hb hbox hg; have hcz12_0 : w11.cell? ⟨gb113, 0, none⟩ = some (.slice A0_0 l0_0.length c0_0) := (blk_cell BK113.out 0).trans rfl; have hcz12_1 : w11.cell? ⟨gb113, 1, none⟩ = some (.slice A0_1 l0_1.length c0_1) := (blk_cell BK113.out 1).trans rfl; have hfz12_0 := blk_frozen BK113.out 0; have hfz12_1 := blk_frozen BK113.out 1) | ((with_reducible refine gate_callee (f := 17) rfl ?_); refine goesL_ (some 7) rfl rfl Try.func17 (by kernel_rfl) rfl #[.agg #[.slice A0_0 l0_0.length c0_0, .slice A0_1 l0_1.length c0_1]] rfl (by (try simp only [List.map_toArray, List.map_cons, List.map_nil]); first | done | rfl | (simp only [List.length_drop, List.length_take]; rfl)) ?_; (with_reducible refine (chain_Chain_Right.calls _ _ l0_0 _ _ l0_1 false _ ?side1 ?side2 ?side3 ?side4 A2.out).mono ?_); (case side1 => repeat (first | exact (Kd.C_below HR0_0.out HB.out) | (with_reducible refine Kd.C_alloc ?_ _) | (with_reducible refine Kd.C_drewN ?_ _) | (with_reducible refine Kd.C_drew ?_))); (case side2 => exact HC0_0.out); (case side3 => repeat (first | exact (Kd.C_below HR0_1.out HB.out) | (with_reducible refine Kd.C_alloc ?_ _) | (with_reducible refine Kd.C_drewN ?_ _) | (with_reducible refine Kd.C_drew ?_))); (case side4 => exact HC0_1.out); rintro e w13 ⟨rfl, hb⟩; refine ⟨_, rfl, ?_⟩; have n0_ := Aside0.mk (blk_below (g := gb113) (o := .cells #[.slice A0_0 l0_0.length c0_0, .slice A0_1 l0_1.length c0_1] 24 (0, 0)) (by (with_reducible repeat (first | refine blk_drewN ?_ _ | refine blk_drew ?_ | refine blk_alloc ?_ _)); exact BK113.out) hb); have n1_ := Aside0.mk (below_step (by repeat (first | (with_reducible first | exact HB.out | apply below_alloc | apply pw_below_drewN | apply below_drew1 | refine below_set ?_ GE113.out) | exact HB.out)) hb); clear BK113; clear HB; have BK113 := n0_; have HB := n1_; clear n0_ n1_; (try clear hb); (try clear hb2); (try clear hk); (try clear hi)))
    go_ret
    exact ⟨by first | rfl | (simp [errW_none, errW_some] <;> rfl) | (simp [*, errW_none, errW_some] <;> rfl), by repeat (first | (with_reducible first | exact HB.out | apply below_alloc | apply pw_below_drewN | apply below_drew1 | refine below_set ?_ GE113.out) | exact HB.out)⟩
end Go.Proofs.Ytiejdbdbafmccaa.PCh
/- part ChLeast -/
namespace Go.Proofs.Ytiejdbdbafmccaa.PCh
open Go.RowKit Go.Proofs.YtiejdbdbafmccaaW.PrintWords Go.Proofs.Ytiejdbdbafmccaa
def chain_Chain_Least.f (l0_0 l0_1 : List Int) (a1 : Int) : Option (Int × Int) := some ((solA l0_0 l0_1 a1).1, solE l0_0 l0_1 a1)
set_option maxHeartbeats 2000000 in
theorem chain_Chain_Least.calls (A0_0 : Option Addr) (c0_0 : Nat) (l0_0 : List Int) (A0_1 : Option Addr) (c0_1 : Nat) (l0_1 : List Int) (a1 r1 r2 : Int) (w : World) (hr0_0 : Kd.C (Kd.int .i64) w A0_0 l0_0.length l0_0) (hc0_0 : l0_0.length ≤ c0_0) (hr0_1 : Kd.C (Kd.int .i64) w A0_1 l0_1.length l0_1) (hc0_1 : l0_1.length ≤ c0_1) (h : chain_Chain_Least.f l0_0 l0_1 a1 = some (r1, r2)) :
    Calls Try.prog 10 #[.agg #[.slice A0_0 l0_0.length c0_0, .slice A0_1 l0_1.length c0_1], .int .i64 a1] w fun e w' => e = .returned (.tuple #[.int .i64 r1, .int .i64 r2]) ∧ Below w.heap.size w w' := by
  unfold chain_Chain_Least.f at h
  injection h with h
  injection h with e1 e2
  subst e1 e2
  have hb : Below w.heap.size w (w.alloc (.cells #[.slice A0_0 l0_0.length c0_0, .slice A0_1 l0_1.length c0_1] 24)) := (Below.refl _ _).alloc (Nat.le_refl _) _
  have HS := Lib.hid (solve_any A0_0 c0_0 l0_0 A0_1 c0_1 l0_1 a1 _ (Kd.C_below hr0_0 hb) hc0_0 (Kd.C_below hr0_1 hb) hc0_1)
  have hP := Blk.new w 24 #[.slice A0_0 l0_0.length c0_0, .slice A0_1 l0_1.length c0_1]
  have p0 := hP.cell 0
  have p1 := hP.cell 1
  simp only [List.getElem?_toArray, List.getElem?_cons_zero, List.getElem?_cons_succ] at p0 p1
  have HB := Lib.hid hb
  clear hr0_0 hc0_0 hr0_1 hc0_1 hb hP
  go_enter Try.func10, Try.ntmps10
  go_wp2_with (go_at_call 21; refine HS.out.mono ?_; rintro e w1 ⟨⟨p, rfl, _⟩, hbl⟩; have HB1 := Lib.hid (HB.out.trans (hbl.mono HB.out.size)); clear hbl)
  go_ret2
  exact ⟨rfl, HB1.out.alloc HB1.out.size _⟩
end Go.Proofs.Ytiejdbdbafmccaa.PCh
