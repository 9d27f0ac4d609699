/- The arena's search walked: at's closure, slices.IndexFunc with it, at, Find. Conditions: each theorem's own. -/
import Derived.Test.YtpjgoiogpgggeaaArA
namespace Go.Proofs.Ytpjgoiogpgggeaa
open Go.RowKit
def hix (N : Int) : List Bk → Nat → Option Nat
  | [], _ => none
  | b :: r, i => if (b.h : Int) = N then some i else hix N r (i + 1)
theorem hix_some {N : Int} {l : List Bk} {k i : Nat} (h : hix N l k = some i) : k ≤ i ∧ ∃ hi : i - k < l.length, (l[i - k].h : Int) = N := by
  induction l generalizing k with
  | nil => simp [hix] at h
  | cons b r ih =>
    unfold hix at h
    split at h
    · injection h with h; subst h; refine ⟨by omega, by simp, ?_⟩; rename_i he; simpa using he
    · obtain ⟨h1, h2, h3⟩ := ih h
      refine ⟨by omega, by simp; omega, ?_⟩
      rw [List.getElem_cons]
      split
      · omega
      · rw [← h3]; congr 3
theorem hix_none {N : Int} {l : List Bk} {k : Nat} : hix N l k = none ↔ ∀ b ∈ l, (b.h : Int) ≠ N := by
  induction l generalizing k with
  | nil => simp [hix]
  | cons b r ih =>
    unfold hix
    split
    · rename_i he; simp [he]
    · rename_i he; rw [ih]; simp [he]
set_option maxHeartbeats 400000 in
theorem at1_any (bx : Nat) (N : Int) (h f n : Nat) (w : World) (hb : w.cell? ⟨bx, 0, none⟩ = some (.int .i64 N)) (hbx : bx < w.heap.size) :
    Calls Try.prog 45 #[.agg #[.int .i64 h, .int .i64 f, .int .i64 n], .pointer (some ⟨bx, 0, none⟩)] w fun e w' => e = .returned (.bool ((h : Int) == N)) ∧ Below w.heap.size w w' := by
  have hbw : (w.alloc (.cells #[.int .i64 h, .int .i64 f, .int .i64 n] 45)).cell? ⟨bx, 0, none⟩ = some (.int .i64 N) := by
    rw [← hb]; exact ((Below.refl _ _).alloc (Nat.le_refl _) _).cell (p := ⟨bx, 0, none⟩) hbx
  go_enter Try.func45, Try.ntmps45
  go_wp2
  go_ret
  exact ⟨rfl, (Below.refl _ _).alloc (Nat.le_refl _) _⟩
def ixVal : Option Nat → Value | none => .int .i64 (-1) | some i => .int .i64 i
set_option maxHeartbeats 1000000 in
theorem ixf_any (v : Value) (l : List Bk) (bx : Nat) (N : Int) (w : World) (ho : OwnB w v l) (hn : l.length ≤ 16777216) (hb : w.cell? ⟨bx, 0, none⟩ = some (.int .i64 N)) (hbx : bx < w.heap.size) :
    Calls Try.prog 44 #[v, .func (.func 45) #[] #[.pointer (some ⟨bx, 0, none⟩)]] w fun e w' => e = .returned (ixVal (hix N l 0)) ∧ Below w.heap.size w w' := by
  obtain ⟨A, c, rfl⟩ := own_slice ho
  have HC := Lib.hid (own_cells3 ho)
  clear ho
  have HB := Lib.hid hb
  clear hb
  go_enter Try.func44, Try.ntmps44
  go_wp2_with fail
  go_loopw [8] (fun i wr => ∃ k : Nat, k ≤ l.length ∧ i = .int .i64 k ∧ hix N l 0 = hix N (l.drop k) k ∧ Below w.heap.size w wr) (fun i _ => l.length - (intOf i).toNat)
  case atStart => exact ⟨0, by omega, rfl, by simp, Below.refl _ _⟩
  case round =>
    obtain ⟨k, hk, rfl, hq, hbel⟩ := hrel
    by_cases hlt : k < l.length
    · obtain ⟨r, rfl, hrl, g0, g1, g2⟩ := HC.out k hlt
      have c0 := (hbel.cell (p := ⟨r, k * 3, none⟩) hrl).trans g0
      have c1 := (hbel.cell (p := ⟨r, k * 3 + 1, none⟩) hrl).trans g1
      have c2 := (hbel.cell (p := ⟨r, k * 3 + 2, none⟩) hrl).trans g2
      have cb := (hbel.cell (p := ⟨bx, 0, none⟩) hbx).trans HB.out
      clear g0 g1 g2
      rw [List.drop_eq_getElem_cons hlt, hix] at hq
      generalize l[k] = q at *
      obtain ⟨qh, qf, qw⟩ := q
      simp only at c0 c1 c2 hq
      have HBe := Lib.hid hbel
      have hsz := hbel.size
      have HA1 := Lib.hid (at1_any bx N qh qf qw wr cb (by omega))
      clear hbel
      by_cases he : (qh : Int) = N
      · rw [if_pos he] at hq
        have heb : ((qh : Int) == N) = true := by simpa using he
        rw [heb] at HA1
        clear he heb
        go_wp2_with (go_at_call 45; refine HA1.out.mono ?_; rintro e w1 ⟨rfl, hb1⟩)
        go_ret
        exact ⟨by first | (rw [hq]; rfl) | rfl, HBe.out.trans (hb1.mono hsz)⟩
      · rw [if_neg he] at hq
        have heb : ((qh : Int) == N) = false := by simpa using he
        rw [heb] at HA1
        clear he heb
        go_wp2_with (go_at_call 45; refine HA1.out.mono ?_; rintro e w1 ⟨rfl, hb1⟩)
        go_roundw
        case rel => exact ⟨k + 1, by omega, by go_num, hq, HBe.out.trans (hb1.mono hsz)⟩
        case measure => simp [intOf]; omega
    · rw [List.drop_eq_nil_of_le (by omega), hix] at hq
      go_wp2_with fail
      go_ret
      exact ⟨by first | (rw [hq]; rfl) | rfl, hbel⟩
def atVals : Option Nat → Array Value | none => #[.int .i64 0, .int .i64 14] | some i => #[.int .i64 i, .int .i64 0]
set_option maxHeartbeats 1000000 in
theorem at_any (g : Nat) (vc vl : Value) (a : Ar) (N : Int) (w : World) (hA : Ara w g vc vl a) (hl : a.l.length ≤ 16777216) :
    Calls Try.prog 31 #[.pointer (some ⟨g, 0, none⟩), .int .i64 N] w fun e w' => e = .returned (.tuple (atVals (hix N a.l 0))) ∧ Below w.heap.size w w' := by
  have hgl := hA.blk.lt
  obtain ⟨A, c, rfl⟩ := own_slice hA.l
  have hb1 : Below w.heap.size w (w.alloc (.cells #[.int .i64 N] 3)) := (Below.refl _ _).alloc (Nat.le_refl _) _
  have hA1 := hA.below hb1
  obtain ⟨⟨h0, h1, h2, h3⟩, h4, h5, h6, h7⟩ := hA1.cells
  have hbx := (Blk.new w 3 #[.int .i64 N])
  have HX := Lib.hid (ixf_any _ a.l w.heap.size N _ hA1.l hl (hbx.cell 0) hbx.lt)
  have HB1 := Lib.hid hb1
  clear hA hA1 h0 h1 h3 h4 h5 h6 h7 hbx hb1
  cases hq : hix N a.l 0 with
  | none =>
    rw [hq] at HX
    go_enter Try.func31, Try.ntmps31
    go_wp2_with (go_at_call 44; refine HX.out.mono ?_; rintro e w1 ⟨rfl, hb1⟩; simp only [ixVal])
    go_ret2
    exact ⟨rfl, HB1.out.trans (hb1.mono HB1.out.size)⟩
  | some i =>
    rw [hq] at HX
    go_enter Try.func31, Try.ntmps31
    go_wp2_with (go_at_call 44; refine HX.out.mono ?_; rintro e w1 ⟨rfl, hb1⟩; simp only [ixVal])
    go_ret2
    exact ⟨rfl, HB1.out.trans (hb1.mono HB1.out.size)⟩
def bagg (b : Bk) : Value := .agg #[.int .i64 b.h, .int .i64 b.f, .int .i64 b.w]
def fiVals (l : List Bk) : Option Nat → Array Value | none => #[.agg #[.int .i64 0, .int .i64 0, .int .i64 0], .int .i64 14] | some i => #[bagg (l.getD i ⟨0, 0, 0⟩), .int .i64 0]
set_option maxHeartbeats 1000000 in
theorem find_any (g : Nat) (vc vl : Value) (a : Ar) (N : Int) (w : World) (hA : Ara w g vc vl a) (hl : a.l.length ≤ 16777216) :
    Calls Try.prog 18 #[.pointer (some ⟨g, 0, none⟩), .int .i64 N] w fun e w' => e = .returned (.tuple (fiVals a.l (hix N a.l 0))) ∧ Below w.heap.size w w' := by
  have hb0 : Below w.heap.size w (w.alloc (.cells #[.int .i64 0, .int .i64 0, .int .i64 0] 45)) := (Below.refl _ _).alloc (Nat.le_refl _) _
  have hZ := Blk.new w 45 #[.int .i64 0, .int .i64 0, .int .i64 0]
  have HAT := Lib.hid (at_any g vc vl a N _ (hA.below hb0) hl)
  have HB0 := Lib.hid hb0
  have HZ := Lib.hid hZ
  clear hb0 hZ
  obtain ⟨A, c, rfl⟩ := own_slice hA.l
  have HBL := Lib.hid fun w1 (hb : Below w.heap.size w w1) => (hA.below hb).cells
  have HC := Lib.hid (own_cells3 hA.l)
  clear hA
  cases hq : hix N a.l 0 with
  | none =>
    simp only [hq, atVals] at HAT
    go_enter Try.func18, Try.ntmps18
    go_wp2_with (go_at_call 31; refine HAT.out.mono ?_; rintro e w1 ⟨rfl, hb1'⟩; have HZ1 := Lib.hid (HZ.out.below hb1' HZ.out.lt); have z0 := HZ1.out.cell 0; have z1 := HZ1.out.cell 1; have z2 := HZ1.out.cell 2; have zf := HZ1.out.frozen; simp only [List.getElem?_toArray, List.getElem?_cons_zero, List.getElem?_cons_succ] at z0 z1 z2; have HB1 := Lib.hid (HB0.out.trans (hb1'.mono HB0.out.size)); clear hb1')
    have hF := ((HZ1.out.set_ 0 (.int .i64 0)).set_ 1 (.int .i64 0)).set_ 2 (.int .i64 0)
    have y0 := hF.cell 0
    have y1 := hF.cell 1
    have y2 := hF.cell 2
    simp at y0 y1 y2
    refine bodyPost_ret (v := .tuple (fiVals a.l none)) (by simp [results, Try.f18, go_sem, y0, y1, y2, fiVals]) rfl ⟨rfl, ?_⟩
    exact ((HB1.out.setCell (p := ⟨w.heap.size, 0, none⟩) (Nat.le_refl _) _).setCell (p := ⟨w.heap.size, 1, none⟩) (Nat.le_refl _) _).setCell (p := ⟨w.heap.size, 2, none⟩) (Nat.le_refl _) _
  | some i =>
    have hi : i < a.l.length := by obtain ⟨_, hi, _⟩ := hix_some hq; simpa using hi
    simp only [hq, atVals] at HAT
    obtain ⟨r, rfl, hrl, g0, g1, g2⟩ := HC.out i hi
    have hgd : a.l.getD i ⟨0, 0, 0⟩ = a.l[i] := by simp [hi]
    have hfi : fiVals a.l (some i) = #[bagg a.l[i], .int .i64 0] := by simp only [fiVals, hgd]
    rw [hfi]
    clear HC hgd hfi
    generalize a.l[i] = q at *
    obtain ⟨qh, qf, qw⟩ := q
    simp only [bagg] at g0 g1 g2 ⊢
    go_enter Try.func18, Try.ntmps18
    go_wp2_with (go_at_call 31; refine HAT.out.mono ?_; rintro e w1 ⟨rfl, hb1'⟩; have HZ1 := Lib.hid (HZ.out.below hb1' HZ.out.lt); have z0 := HZ1.out.cell 0; have z1 := HZ1.out.cell 1; have z2 := HZ1.out.cell 2; have zf := HZ1.out.frozen; simp only [List.getElem?_toArray, List.getElem?_cons_zero, List.getElem?_cons_succ] at z0 z1 z2; have hb1 := HB0.out.trans (hb1'.mono HB0.out.size); clear hb1'; obtain ⟨⟨h0, h1, h2, h3⟩, h4, h5, h6, h7⟩ := HBL.out _ hb1; have c0 := (hb1.cell (p := ⟨r, i * 3, none⟩) hrl).trans g0; have c1 := (hb1.cell (p := ⟨r, i * 3 + 1, none⟩) hrl).trans g1; have c2 := (hb1.cell (p := ⟨r, i * 3 + 2, none⟩) hrl).trans g2; have HB1 := Lib.hid hb1; clear hb1)
    have hF := ((HZ1.out.set_ 0 (.int .i64 qh)).set_ 1 (.int .i64 qf)).set_ 2 (.int .i64 qw)
    have y0 := hF.cell 0
    have y1 := hF.cell 1
    have y2 := hF.cell 2
    simp at y0 y1 y2
    refine bodyPost_ret (v := .tuple #[.agg #[.int .i64 qh, .int .i64 qf, .int .i64 qw], .int .i64 0]) (by simp [results, Try.f18, go_sem, y0, y1, y2]) rfl ⟨rfl, ?_⟩
    exact ((HB1.out.setCell (p := ⟨w.heap.size, 0, none⟩) (Nat.le_refl _) _).setCell (p := ⟨w.heap.size, 1, none⟩) (Nat.le_refl _) _).setCell (p := ⟨w.heap.size, 2, none⟩) (Nat.le_refl _) _
end Go.Proofs.Ytpjgoiogpgggeaa
