/- The arena's own, Put and Get, walked. Conditions: the blocks lie within the cells. -/
import Derived.Deep.RegionHeld3
import Derived.Test.YtpjgoiogpgggeaaArD
namespace Go.Proofs.Ytpjgoiogpgggeaa
open Go.RowKit
set_option maxRecDepth 100000 in
set_option maxHeartbeats 1000000 in
theorem own_any (g : Nat) (rc cc : Nat) (vl : Value) (a : Ar) (b : Bk) (w : World) (hA : Ara w g (.slice (some ⟨rc, 0, none⟩) a.cells.length cc) vl a) (hb : b.f + b.w ≤ a.cells.length) (hw : 1 ≤ b.w) (hcm : a.cells.length ≤ 16777216) :
    Calls Try.prog 33 #[.pointer (some ⟨g, 0, none⟩), bagg b] w fun e w' => e = .returned (.slice (some ⟨rc, b.f, none⟩) b.w (cc - b.f)) ∧ Below w.heap.size w w' := by
  obtain ⟨cur, hbc, hcc, hct, hcn, hcx⟩ := own_blk1 hA.c
  obtain ⟨WB, hWB⟩ : ∃ WB, WB = w.alloc (.cells #[.int .i64 b.h, .int .i64 b.f, .int .i64 b.w] 45) := ⟨_, rfl⟩
  have hbB : Below w.heap.size w WB := by rw [hWB]; exact (Below.refl _ _).alloc (Nat.le_refl _) _
  have hBX : Blk WB w.heap.size 45 #[.int .i64 b.h, .int .i64 b.f, .int .i64 b.w] := by rw [hWB]; exact Blk.new _ _ _
  have hArB := hA.below hbB
  have hS : ∀ w1, Below WB.heap.size WB w1 → (w1.cell? ⟨g, 1, none⟩ = some (.slice (some ⟨rc, 0, none⟩) a.cells.length cc) ∧ w1.cell? ⟨w.heap.size, 0, none⟩ = some (.int .i64 b.h) ∧ w1.cell? ⟨w.heap.size, 1, none⟩ = some (.int .i64 b.f) ∧ w1.cell? ⟨w.heap.size, 2, none⟩ = some (.int .i64 b.w)) := fun w1 hb => by
    have h1 := hArB.below hb
    have h2 := hBX.below hb hBX.lt
    exact ⟨h1.blk.cell 1, h2.cell 0, h2.cell 1, h2.cell 2⟩
  have HS := Lib.hid hS
  obtain ⟨e1, e2, e3, e4⟩ := hS WB (Below.refl _ _)
  have HB := Lib.hid hbB
  clear hA hArB hBX hS hbB hbc
  obtain ⟨qh, qf, qw⟩ := b
  simp only [bagg] at *
  generalize a.cells.length = n at *
  have n2 : qf + qw ≤ cc := by omega
  have n4 : qf ≤ cc := by omega
  have n5 : ¬ cc = qf := by omega
  have b3 : ((qf + qw : Nat) : Int) ≤ (cc : Int) := by omega
  have b4 : (qf : Int) ≤ ((qf + qw : Nat) : Int) := by omega
  have b5 : (qf : Int) + (qw : Int) ≤ (cc : Int) := by omega
  have b8 : (0 : Int) ≤ (qf : Int) := by omega
  have b9 : ((qf : Int) + (qw : Int)).toNat = qf + qw := by omega
  have b10 : (0 : Int) ≤ (qf : Int) + (qw : Int) := by omega
  have b11 : (qf : Int) ≤ (qf : Int) + (qw : Int) := by omega
  clear hcc hct hcn
  go_enter Try.func33, Try.ntmps33
  go_wp2_with fail
  rw [← hWB]
  clear hWB
  go_region_held3 (fun w' => w'.cell? ⟨g, 1, none⟩ = some (.slice (some ⟨rc, 0, none⟩) n cc) ∧ w'.cell? ⟨w.heap.size, 0, none⟩ = some (.int .i64 qh) ∧ w'.cell? ⟨w.heap.size, 1, none⟩ = some (.int .i64 qf) ∧ w'.cell? ⟨w.heap.size, 2, none⟩ = some (.int .i64 qw)) (go_keep)
    (first | (go_at_call 30; refine (to_any qh qf qw _ (by omega)).mono ?_; rintro e w1 ⟨rfl, hb1'⟩; have hb1 : Below WB.heap.size WB w1 := ⟨hb1'.os, hb1'.tape, hb1'.output, hb1'.size, hb1'.block⟩; obtain ⟨d0, d1, d2, d3⟩ := HS.out w1 hb1; have HB1 := Lib.hid hb1; clear hb1 hb1'))
  go_wp2_with fail
  go_ret
  exact ⟨by first | rfl | simp [n5], HB.out.trans (HB1.out.mono HB.out.size)⟩
set_option maxRecDepth 100000 in
set_option maxHeartbeats 400000 in
/-- slices.Clone of a stretch of cells that reads as xs. -/
theorem clone_F (rb o n c : Nat) (xs : List Int) (w : World) (hr : Reads w w.heap.size 1 (some ⟨rb, o, none⟩) n (ivals xs)) (hn : n ≤ 16777216) :
    Calls Try.prog 34 #[.slice (some ⟨rb, o, none⟩) n c] w (ClonePost w 59 1 n (ivals xs)) := by
  obtain ⟨i0, hi0, hz0, hz1, hz2, hz3⟩ := info_parts4 info_F
  have hfin : ∀ w' v', w'.ownsRow 0 59 1 v' (0 + n) ([] ++ ivals xs) → (w.alloc (.cells #[] 59)).grownBy w' (some w.heap.size) → (v'.ownBlock = some w.heap.size ∨ v'.ownBlock = some (w.heap.size + 1)) → ClonePost w 59 1 n (ivals xs) (.returned v') w' := fun w' v' h1 h2 h3 =>
    ⟨v', rfl, by simpa using h1, ((Below.refl _ _).alloc (Nat.le_refl _) _).grown h2 (by simp) (fun k hk => by simp at hk; omega), fun b hb => by rcases h3 with h3 | h3 <;> rw [h3] at hb <;> injection hb with hb <;> omega⟩
  have hr1 : Reads (w.alloc (.cells #[] 59)) w.heap.size 1 (some ⟨rb, o, none⟩) n (ivals xs) := hr.below ((Below.refl _ _).alloc (Nat.le_refl _) _)
  have ho1 : (w.alloc (.cells #[] 59)).ownsRow 0 59 1 (.slice (some ⟨w.heap.size, 0, none⟩) 0 0) 0 [] := World.ownsRow_made w #[] 0 (by omega) (by unfold maxLen; omega) (by simp)
  have HF := Lib.hid hfin; have HR := Lib.hid hr1; have HO := Lib.hid ho1
  clear hfin hr hr1 ho1
  have he := @Lib.run_eql_slice_nil Try.prog
  go_enter Try.func34, Try.ntmps34
  go_wp2_with (at_builtin; refine wpList_append_rd _ rfl (.tmp 5) (.tmp 6) _ rfl 59 i0 (.int .i64 0) 1 8 Try.underlying23 hi0 hz0 hz1 hz2 rfl (by omega) (.slice (some ⟨w.heap.size, 0, none⟩) 0 0) 0 [] rfl HO.out w.heap.size (some ⟨rb, o, none⟩) n c (ivals xs) rfl HR.out (ivals_one xs) (by unfold maxLen; omega) (by omega) ?_; intro v' w' h1 h2 h3)
  go_ret
  exact HF.out _ _ h1 h2 (by simpa [Value.ownBlock] using h3)
end Go.Proofs.Ytpjgoiogpgggeaa
