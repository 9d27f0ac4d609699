/- The arena in memory, and its small functions walked: a block's end, gap, at, Find, Live, High, Peak, Moves, Cap. Conditions: each theorem's own. -/
import Derived.Test.YtpjgoiogpgggeaaSlA
namespace Go.Proofs.Ytpjgoiogpgggeaa
open Go.RowKit
theorem own_own_ne {w : World} {b b' e e' sz sz' n n' : Nat} {v v' : Value} {xs xs' : List Value} (h : w.ownsRow b e sz v n xs) (h' : w.ownsRow b' e' sz' v' n' xs') (hne : e ≠ e') : ∀ k, v.ownBlock = some k → v'.ownBlock ≠ some k := by
  intro k hk hk'
  rcases h'.2 with ⟨rfl, _⟩ | ⟨g', cap, cur, rfl, _, hh, _⟩
  · simp [Value.ownBlock] at hk'
  · simp [Value.ownBlock] at hk'
    subst hk'
    exact own_blk_ne h (show Blk w g' e' cur from hh) hne hk
structure Bk where
  h : Nat
  f : Nat
  w : Nat
deriving DecidableEq
def bval (b : Bk) : List Value := [.int .i64 b.h, .int .i64 b.f, .int .i64 b.w]
def bents (l : List Bk) : List Value := l.flatMap bval
theorem bents_nil : bents [] = [] := rfl
theorem bents_cons (e : Bk) (l : List Bk) : bents (e :: l) = .int .i64 e.h :: .int .i64 e.f :: .int .i64 e.w :: bents l := rfl
theorem bents_append (a b : List Bk) : bents (a ++ b) = bents a ++ bents b := List.flatMap_append
theorem bents_length (l : List Bk) : (bents l).length = l.length * 3 := by
  induction l with
  | nil => rfl
  | cons e l ih => rw [bents_cons]; simp [ih]; omega
theorem bents_take (l : List Bk) (i : Nat) : (bents l).take (i * 3) = bents (l.take i) := by
  induction l generalizing i with
  | nil => simp [bents_nil]
  | cons e l ih =>
    cases i with
    | zero => simp [bents_nil]
    | succ i => rw [bents_cons, List.take_succ_cons, bents_cons, ← ih, show (i + 1) * 3 = i * 3 + 1 + 1 + 1 from by omega, List.take_succ_cons, List.take_succ_cons, List.take_succ_cons]
theorem bents_drop (l : List Bk) (i : Nat) : (bents l).drop (i * 3) = bents (l.drop i) := by
  induction l generalizing i with
  | nil => simp [bents_nil]
  | cons e l ih =>
    cases i with
    | zero => simp
    | succ i => rw [bents_cons, List.drop_succ_cons, ← ih, show (i + 1) * 3 = i * 3 + 1 + 1 + 1 from by omega, List.drop_succ_cons, List.drop_succ_cons, List.drop_succ_cons]
theorem bents_get0 (l : List Bk) (j : Nat) : (bents l)[j * 3 + 0]? = l[j]?.map fun e => .int .i64 e.h := by
  rw [← List.getElem?_drop, bents_drop]
  rw [show l[j]? = (l.drop j)[0]? from by rw [List.getElem?_drop]; rfl]
  cases l.drop j with
  | nil => rfl
  | cons e l => rfl
theorem bents_get1 (l : List Bk) (j : Nat) : (bents l)[j * 3 + 1]? = l[j]?.map fun e => .int .i64 e.f := by
  rw [← List.getElem?_drop, bents_drop]
  rw [show l[j]? = (l.drop j)[0]? from by rw [List.getElem?_drop]; rfl]
  cases l.drop j with
  | nil => rfl
  | cons e l => rfl
theorem bents_get2 (l : List Bk) (j : Nat) : (bents l)[j * 3 + 2]? = l[j]?.map fun e => .int .i64 e.w := by
  rw [← List.getElem?_drop, bents_drop]
  rw [show l[j]? = (l.drop j)[0]? from by rw [List.getElem?_drop]; rfl]
  cases l.drop j with
  | nil => rfl
  | cons e l => rfl
theorem bents_one (l : List Bk) : ∀ u ∈ bents l, u.oneCell' = true := by
  intro u hu
  simp only [bents, List.mem_flatMap] at hu
  obtain ⟨e, _, he⟩ := hu
  simp [bval] at he
  rcases he with rfl | rfl | rfl <;> rfl
theorem bents_setf (l : List Bk) (i : Nat) (hi : i < l.length) (f : Nat) : (bents l).set (i * 3 + 1) (.int .i64 f) = bents (l.set i ⟨l[i].h, f, l[i].w⟩) := by
  induction l generalizing i with
  | nil => simp at hi
  | cons a l ih =>
    cases i with
    | zero => simp [bents_cons]
    | succ i =>
      have := ih i (by simpa using hi)
      rw [bents_cons, show (i + 1) * 3 + 1 = (i * 3 + 1) + 1 + 1 + 1 from by omega, List.set_cons_succ, List.set_cons_succ, List.set_cons_succ, this]
      simp [bents_cons]
abbrev OwnB (w : World) (v : Value) (l : List Bk) : Prop := w.ownsRow 0 45 3 v l.length (bents l)
theorem own_cells3 {w : World} {A : Option Addr} {c : Nat} {l : List Bk} (ho : OwnB w (.slice A l.length c) l) (i : Nat) (hi : i < l.length) :
    ∃ r, A = some ⟨r, 0, none⟩ ∧ r < w.heap.size ∧ w.cell? ⟨r, i * 3, none⟩ = some (.int .i64 l[i].h) ∧ w.cell? ⟨r, i * 3 + 1, none⟩ = some (.int .i64 l[i].f) ∧ w.cell? ⟨r, i * 3 + 2, none⟩ = some (.int .i64 l[i].w) := by
  rcases ho.2 with ⟨_, h0⟩ | ⟨r, cap, cur, hv, _, hg, _⟩
  · omega
  · injection hv with h1 h2 h3
    subst h1; subst h3
    refine ⟨r, rfl, (Array.getElem?_eq_some_iff.1 hg).1, ?_, ?_, ?_⟩
    · rw [ho.cellAt _ (by omega), ← Nat.add_zero (i * 3), bents_get0, List.getElem?_eq_getElem hi]; rfl
    · rw [ho.cellAt _ (by omega), bents_get1, List.getElem?_eq_getElem hi]; rfl
    · rw [ho.cellAt _ (by omega), bents_get2, List.getElem?_eq_getElem hi]; rfl
def ivals (l : List Int) : List Value := l.map (.int .i64 ·)
abbrev OwnF (w : World) (v : Value) (l : List Int) : Prop := w.ownsRow 0 59 1 v l.length (ivals l)

/-- An arena, plainly. -/
structure Ar where
  cap : Nat
  cells : List Int
  l : List Bk
  last : Nat
  live : Nat
  high : Nat
  peak : Nat
  moves : Nat
/-- An arena in memory. -/
structure Ara (w : World) (g : Nat) (vc vl : Value) (a : Ar) : Prop where
  blk : Blk w g 62 #[.int .i64 a.cap, vc, vl, .int .i64 a.last, .int .i64 a.live, .int .i64 a.high, .int .i64 a.peak, .int .i64 a.moves]
  c : OwnF w vc a.cells
  l : OwnB w vl a.l
theorem Ara.below {w w' : World} {g : Nat} {vc vl : Value} {a : Ar} (h : Ara w g vc vl a) (hb : Below w.heap.size w w') : Ara w' g vc vl a :=
  ⟨h.blk.below hb h.blk.lt, (Frm.of_below hb (S := [])).own h.c (by simp), (Frm.of_below hb (S := [])).own h.l (by simp)⟩
theorem Ara.cells {w : World} {g : Nat} {vc vl : Value} {a : Ar} (h : Ara w g vc vl a) :
    (w.cell? ⟨g, 0, none⟩ = some (.int .i64 a.cap) ∧ w.cell? ⟨g, 1, none⟩ = some vc ∧ w.cell? ⟨g, 2, none⟩ = some vl ∧ w.cell? ⟨g, 3, none⟩ = some (.int .i64 a.last)) ∧ w.cell? ⟨g, 4, none⟩ = some (.int .i64 a.live) ∧ w.cell? ⟨g, 5, none⟩ = some (.int .i64 a.high) ∧ w.cell? ⟨g, 6, none⟩ = some (.int .i64 a.peak) ∧ w.cell? ⟨g, 7, none⟩ = some (.int .i64 a.moves) :=
  ⟨⟨h.blk.cell 0, h.blk.cell 1, h.blk.cell 2, h.blk.cell 3⟩, h.blk.cell 4, h.blk.cell 5, h.blk.cell 6, h.blk.cell 7⟩

def gapOf (cap n : Nat) : List Bk → Nat → Nat → Option (Nat × Nat)
  | [], fr, i => if fr + n ≤ cap then some (fr, i) else none
  | b :: r, fr, i => if fr + n ≤ b.f then some (fr, i) else gapOf cap n r (b.f + b.w) (i + 1)
def gapVals : Option (Nat × Nat) → Array Value
  | none => #[.int .i64 (-1), .int .i64 (-1)]
  | some p => #[.int .i64 p.1, .int .i64 p.2]

set_option maxHeartbeats 400000 in
theorem to_any (h f n : Nat) (w : World) (hb : f + n ≤ 4294967296) :
    Calls Try.prog 30 #[.agg #[.int .i64 h, .int .i64 f, .int .i64 n]] w fun e w' => e = .returned (.int .i64 ((f + n : Nat) : Int)) ∧ Below w.heap.size w w' := by
  go_enter Try.func30, Try.ntmps30
  go_wp2
  go_ret
  exact ⟨by go_num, (Below.refl _ _).alloc (Nat.le_refl _) _⟩
set_option maxHeartbeats 400000 in
theorem live_any (g : Nat) (vc vl : Value) (a : Ar) (w : World) (hA : Ara w g vc vl a) :
    Calls Try.prog 13 #[.pointer (some ⟨g, 0, none⟩)] w fun e w' => e = .returned (.int .i64 a.live) ∧ w' = w := by
  obtain ⟨⟨h0, h1, h2, h3⟩, h4, h5, h6, h7⟩ := hA.cells
  clear hA
  go_enter Try.func13, Try.ntmps13
  go_wp2
  go_ret
  exact ⟨rfl, rfl⟩
set_option maxHeartbeats 400000 in
theorem high_any (g : Nat) (vc vl : Value) (a : Ar) (w : World) (hA : Ara w g vc vl a) :
    Calls Try.prog 21 #[.pointer (some ⟨g, 0, none⟩)] w fun e w' => e = .returned (.int .i64 a.high) ∧ w' = w := by
  obtain ⟨⟨h0, h1, h2, h3⟩, h4, h5, h6, h7⟩ := hA.cells
  clear hA
  go_enter Try.func21, Try.ntmps21
  go_wp2
  go_ret
  exact ⟨rfl, rfl⟩
set_option maxHeartbeats 400000 in
theorem peak_any (g : Nat) (vc vl : Value) (a : Ar) (w : World) (hA : Ara w g vc vl a) :
    Calls Try.prog 23 #[.pointer (some ⟨g, 0, none⟩)] w fun e w' => e = .returned (.int .i64 a.peak) ∧ w' = w := by
  obtain ⟨⟨h0, h1, h2, h3⟩, h4, h5, h6, h7⟩ := hA.cells
  clear hA
  go_enter Try.func23, Try.ntmps23
  go_wp2
  go_ret
  exact ⟨rfl, rfl⟩
set_option maxHeartbeats 400000 in
theorem moves_any (g : Nat) (vc vl : Value) (a : Ar) (w : World) (hA : Ara w g vc vl a) :
    Calls Try.prog 19 #[.pointer (some ⟨g, 0, none⟩)] w fun e w' => e = .returned (.int .i64 a.moves) ∧ w' = w := by
  obtain ⟨⟨h0, h1, h2, h3⟩, h4, h5, h6, h7⟩ := hA.cells
  clear hA
  go_enter Try.func19, Try.ntmps19
  go_wp2
  go_ret
  exact ⟨rfl, rfl⟩
set_option maxHeartbeats 400000 in
theorem acap_any (g : Nat) (vc vl : Value) (a : Ar) (w : World) (hA : Ara w g vc vl a) :
    Calls Try.prog 20 #[.pointer (some ⟨g, 0, none⟩)] w fun e w' => e = .returned (.int .i64 a.cap) ∧ w' = w := by
  obtain ⟨⟨h0, h1, h2, h3⟩, h4, h5, h6, h7⟩ := hA.cells
  clear hA
  go_enter Try.func20, Try.ntmps20
  go_wp2
  go_ret
  exact ⟨rfl, rfl⟩
set_option maxHeartbeats 1000000 in
theorem gap_any (g : Nat) (vc vl : Value) (a : Ar) (n : Nat) (w : World) (hA : Ara w g vc vl a) (hcap : a.cap ≤ 16777216) (hn : n ≤ 65536) (hl : a.l.length ≤ 16777216) (hb : ∀ b ∈ a.l, b.f + b.w ≤ 16777216) :
    Calls Try.prog 26 #[.pointer (some ⟨g, 0, none⟩), .int .i64 n] w fun e w' => e = .returned (.tuple (gapVals (gapOf a.cap n a.l 0 0))) ∧ Below w.heap.size w w' := by
  have hcs := hA.cells
  have HL := Lib.hid hA.l
  obtain ⟨A, c, rfl⟩ := own_slice hA.l
  obtain ⟨⟨h0, h1, h2, h3⟩, h4, h5, h6, h7⟩ := hcs
  have HC := Lib.hid (own_cells3 hA.l)
  have hgl := hA.blk.lt
  have HB := Lib.hid hb
  clear hA h1 h3 h4 h5 h6 h7 HL hb
  go_enter Try.func26, Try.ntmps26
  go_wp2_with fail
  go_loopw [4, 13] (fun fr i wr => ∃ k f : Nat, k ≤ a.l.length ∧ i = .int .i64 k ∧ fr = .int .i64 f ∧ f ≤ 16777216 ∧ gapOf a.cap n a.l 0 0 = gapOf a.cap n (a.l.drop k) f k ∧ Below w.heap.size w wr) (fun _ i _ => a.l.length - (intOf i).toNat)
  case atStart => exact ⟨0, 0, by omega, rfl, rfl, by omega, by simp, Below.refl _ _⟩
  case round =>
    obtain ⟨k, f, hk, rfl, rfl, hf, hgap, hbel⟩ := hrel
    by_cases hlt : k < a.l.length
    · obtain ⟨r, rfl, hrl, g0, g1, g2⟩ := HC.out k hlt
      have c0 := (hbel.cell (p := ⟨r, k * 3, none⟩) hrl).trans g0
      have c1 := (hbel.cell (p := ⟨r, k * 3 + 1, none⟩) hrl).trans g1
      have c2 := (hbel.cell (p := ⟨r, k * 3 + 2, none⟩) hrl).trans g2
      clear g0 g1 g2
      rw [List.drop_eq_getElem_cons hlt, gapOf] at hgap
      have hbk := HB.out _ (List.getElem_mem hlt)
      generalize a.l[k] = q at *
      obtain ⟨qh, qf, qw⟩ := q
      simp only at c0 c1 c2 hgap hbk
      have HBe := Lib.hid hbel
      have hsz := hbel.size
      clear hbel
      by_cases hfit : f + n ≤ qf
      · rw [if_pos hfit] at hgap
        have hge : ((n : Int) ≤ (qf : Int) - (f : Int)) := by omega
        go_wp2_with (go_at_call 30; refine (to_any _ _ _ _ (by omega)).mono ?_; rintro e w1 ⟨rfl, hb1⟩)
        go_ret2
        exact ⟨by rw [hgap]; rfl, HBe.out.alloc HBe.out.size _⟩
      · rw [if_neg hfit] at hgap
        have hge : ¬ ((n : Int) ≤ (qf : Int) - (f : Int)) := by omega
        go_wp2_with (go_at_call 30; refine (to_any _ _ _ _ (by omega)).mono ?_; rintro e w1 ⟨rfl, hb1⟩)
        go_roundw
        case rel => exact ⟨k + 1, qf + qw, by omega, by go_num, by go_num, by omega, hgap, (HBe.out.alloc HBe.out.size _).trans (hb1.mono (by have := HBe.out.size; simp; omega))⟩
        case measure => simp [intOf]; omega
    · rw [List.drop_eq_nil_of_le (by omega), gapOf] at hgap
      obtain rfl : k = a.l.length := by omega
      have c0 := (hbel.cell (p := ⟨g, 0, none⟩) hgl).trans h0
      have c2 := (hbel.cell (p := ⟨g, 2, none⟩) hgl).trans h2
      have HBe := Lib.hid hbel
      clear hbel
      by_cases hfit : f + n ≤ a.cap
      · rw [if_pos hfit] at hgap
        have hge : ((n : Int) ≤ (a.cap : Int) - (f : Int)) := by omega
        go_wp2_with fail
        go_quiet (fail)
        go_wp2_with fail
        go_ret2
        exact ⟨by first | (rw [hgap]; rfl) | rfl, ⟨HBe.out.os, HBe.out.tape, HBe.out.output, HBe.out.size, HBe.out.block⟩⟩
      · rw [if_neg hfit] at hgap
        have hge : ¬ ((n : Int) ≤ (a.cap : Int) - (f : Int)) := by omega
        go_wp2_with fail
        go_ret2
        exact ⟨by first | (rw [hgap]; rfl) | rfl, HBe.out⟩
end Go.Proofs.Ytpjgoiogpgggeaa
