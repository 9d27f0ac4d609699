/- The arena's Give, walked. Conditions: the blocks lie in order within the cells. -/
import Derived.Test.YtpjgoiogpgggeaaArH
namespace Go.Proofs.Ytpjgoiogpgggeaa
open Go.RowKit
set_option maxRecDepth 100000 in
set_option maxHeartbeats 1000000 in
theorem give_range (g : Nat) (n : Int) (w : World) (hn : n < 1 ∨ 65536 < n) :
    Calls Try.prog 11 #[.pointer (some ⟨g, 0, none⟩), .int .i64 n] w fun e w' => e = .returned (.tuple #[.int .i64 0, .int .i64 11]) ∧ w' = w := by
  rcases hn with hn | hn
  · go_enter Try.func11, Try.ntmps11
    go_wp2
    go_ret2
    exact ⟨rfl, rfl⟩
  · have h1 : ¬ n < 1 := by omega
    go_enter Try.func11, Try.ntmps11
    go_wp2
    go_ret2
    exact ⟨rfl, rfl⟩
set_option maxRecDepth 100000 in
set_option maxHeartbeats 1000000 in
theorem give_full (g : Nat) (vc vl : Value) (a : Ar) (n : Nat) (w : World) (hA : Ara w g vc vl a) (hn : 1 ≤ n ∧ n ≤ 65536) (hcm : a.cap ≤ 16777216) (hlm : a.live ≤ a.cap) (hf : a.cap < a.live + n) :
    Calls Try.prog 11 #[.pointer (some ⟨g, 0, none⟩), .int .i64 n] w fun e w' => e = .returned (.tuple #[.int .i64 0, .int .i64 15]) ∧ Below w.heap.size w w' := by
  obtain ⟨⟨h0, h1, h2, h3⟩, h4, h5, h6, h7⟩ := hA.cells
  clear hA
  have n1 : ¬ (n : Int) < 1 := by omega
  have n2 : ¬ (65536 : Int) < (n : Int) := by omega
  have n3 : (a.cap : Int) - (a.live : Int) < (n : Int) := by omega
  have n4 : IntKind.i64.wrap ((a.cap : Int) - (a.live : Int)) = (a.cap : Int) - (a.live : Int) := by rw [IntKind.wrap_i64]; omega
  go_enter Try.func11, Try.ntmps11
  go_wp2_with fail

  go_region
  all_goals (go_wp2_with fail)
  all_goals go_ret2
  all_goals exact ⟨rfl, ⟨rfl, rfl, rfl, Nat.le_refl _, fun _ _ => rfl⟩⟩
end Go.Proofs.Ytpjgoiogpgggeaa
