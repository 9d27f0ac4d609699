/- The law ArenaNew, walked: true for every capacity and every number of words. Conditions: none. -/
import Derived.Test.YtpjgoiogpgggeaaArM
namespace Go.Proofs.Ytpjgoiogpgggeaa
open Go.RowKit
theorem give_new_ok (c n : Nat) (h1 : 1 ≤ n) (h2 : n ≤ 65536) (h3 : n ≤ c) : giveF (newA c) n = (giveAt (newA c) 0 0 n, 1, 0) := by
  unfold giveF
  rw [if_neg (by omega), if_neg (by show ¬ (c : Int) < ((0 : Nat) : Int) + n; omega), Int.toNat_natCast]
  have : gapOf (newA c).cap n (newA c).l 0 0 = some (0, 0) := by show gapOf c n [] 0 0 = _; unfold gapOf; rw [if_pos (by omega)]
  unfold giveOk
  rw [this]
  rfl
set_option maxRecDepth 100000 in
set_option maxHeartbeats 4000000 in
theorem new_walk (cap words : Int) (w : World) : Calls Try.prog 5 #[.int .i64 cap, .int .i64 words] w fun e w' => e = .returned (.bool true) ∧ Below w.heap.size w w' := by
  by_cases hbad : cap < 0 ∨ 16777216 < cap
  · have HN := Lib.hid (new_bad cap w hbad)
    rcases hbad with hb | hb
    · go_enter Try.func5, Try.ntmps5
      go_wp2_with (first | (go_at_call 10; refine HN.out.mono ?_; rintro e w1 ⟨rfl, rfl⟩) | (go_at_call 9; refine (awake_true _).mono ?_; rintro e w2 ⟨rfl, hb2⟩))
      go_ret
      exact ⟨rfl, hb2⟩
    · have hb' : ¬ cap < 0 := by omega
      go_enter Try.func5, Try.ntmps5
      go_wp2_with (first | (go_at_call 10; refine HN.out.mono ?_; rintro e w1 ⟨rfl, rfl⟩) | (go_at_call 9; refine (awake_true _).mono ?_; rintro e w2 ⟨rfl, hb2⟩))
      go_ret
      exact ⟨rfl, hb2⟩
  · obtain ⟨c, rfl⟩ : ∃ c : Nat, cap = c := ⟨cap.toNat, by omega⟩
    have hc : c ≤ 16777216 := by omega
    have h1 : ¬ (c : Int) < 0 := by omega
    have h2 : ¬ (16777216 : Int) < (c : Int) := by omega
    have HM0 := Lib.hid (Mine.new c w w (Below.refl _ _))
    have hI := inv_new c
    have hS : Sml (newA c) := ⟨hc, Nat.zero_le _, Nat.zero_le _⟩
    have HG : Hid (words < 1 ∨ 65536 < words → giveF (newA c) words = (newA c, 0, 11)) := fun h => by unfold giveF; rw [if_pos h]
    have HG2 : Hid (1 ≤ words → words ≤ 65536 → (c : Int) < words → giveF (newA c) words = (newA c, 0, 15)) := fun h1 h2 h3 => by
      unfold giveF; rw [if_neg (by omega), if_pos (by show (c : Int) < ((0 : Nat) : Int) + words; omega)]
    clear hbad
    have HI := Lib.hid hI; have HS := Lib.hid hS
    clear hI hS
    have HC : Hid (∀ W, Mine w w.heap.size (.slice none 0 0) (.slice none 0 0) (newA c) W → Calls Try.prog 20 #[.pointer (some ⟨w.heap.size, 0, none⟩)] W fun e w' => e = .returned (.int .i64 c) ∧ w' = W) := fun W hM => acap_any _ _ _ _ W hM.ar
    have HL : Hid (∀ W, Mine w w.heap.size (.slice none 0 0) (.slice none 0 0) (newA c) W → Calls Try.prog 13 #[.pointer (some ⟨w.heap.size, 0, none⟩)] W fun e w' => e = .returned (.int .i64 0) ∧ w' = W) := fun W hM => live_any _ _ _ _ W hM.ar
    by_cases hr : words < 1 ∨ 65536 < words
    · have HGV := Lib.hid (HG.out hr)
      rcases hr with hr | hr
      · skip
        go_enter Try.func5, Try.ntmps5
        go_wp2_with (first
          | (go_at_call 10; refine (new_ok c w hc).mono ?_; rintro e w1 ⟨rfl, hw1⟩; rw [← hw1] at HM0; clear hw1)
          | (go_at_call 20; refine (HC.out _ HM0.out).mono ?_; rintro e w2 ⟨rfl, rfl⟩)
          | (go_at_call 13; refine (HL.out _ HM0.out).mono ?_; rintro e w2 ⟨rfl, rfl⟩)
          | (go_at_call 12; refine (free_at HM0.out HI.out HS.out (er := 14) (a' := newA c) rfl).mono ?_; rintro e w3 ⟨vc3, vl3, rfl, hm⟩; have HM3 := Lib.hid hm; clear hm)
          | (go_at_call 11; refine (give_at HM3.out HI.out HS.out HGV.out).mono ?_; rintro e w4 ⟨vc4, vl4, rfl, hm⟩; have HM4 := Lib.hid hm; clear hm)
          | (go_at_call 9; refine (awake_true _).mono ?_; rintro e w5 ⟨rfl, hb5⟩))
        go_ret
        exact ⟨rfl, HM4.out.b.trans (hb5.mono HM4.out.b.size)⟩
      · skip
        go_enter Try.func5, Try.ntmps5
        go_wp2_with (first
          | (go_at_call 10; refine (new_ok c w hc).mono ?_; rintro e w1 ⟨rfl, hw1⟩; rw [← hw1] at HM0; clear hw1)
          | (go_at_call 20; refine (HC.out _ HM0.out).mono ?_; rintro e w2 ⟨rfl, rfl⟩)
          | (go_at_call 13; refine (HL.out _ HM0.out).mono ?_; rintro e w2 ⟨rfl, rfl⟩)
          | (go_at_call 12; refine (free_at HM0.out HI.out HS.out (er := 14) (a' := newA c) rfl).mono ?_; rintro e w3 ⟨vc3, vl3, rfl, hm⟩; have HM3 := Lib.hid hm; clear hm)
          | (go_at_call 11; refine (give_at HM3.out HI.out HS.out HGV.out).mono ?_; rintro e w4 ⟨vc4, vl4, rfl, hm⟩; have HM4 := Lib.hid hm; clear hm)
          | (go_at_call 9; refine (awake_true _).mono ?_; rintro e w5 ⟨rfl, hb5⟩))
        go_ret
        exact ⟨rfl, HM4.out.b.trans (hb5.mono HM4.out.b.size)⟩
    · have n1 : ¬ words < 1 := by omega
      have n2 : ¬ 65536 < words := by omega
      by_cases hw : (c : Int) < words
      · have HGV := Lib.hid (HG2.out (by omega) (by omega) hw)
        go_enter Try.func5, Try.ntmps5
        go_wp2_with (first
          | (go_at_call 10; refine (new_ok c w hc).mono ?_; rintro e w1 ⟨rfl, hw1⟩; rw [← hw1] at HM0; clear hw1)
          | (go_at_call 20; refine (HC.out _ HM0.out).mono ?_; rintro e w2 ⟨rfl, rfl⟩)
          | (go_at_call 13; refine (HL.out _ HM0.out).mono ?_; rintro e w2 ⟨rfl, rfl⟩)
          | (go_at_call 12; refine (free_at HM0.out HI.out HS.out (er := 14) (a' := newA c) rfl).mono ?_; rintro e w3 ⟨vc3, vl3, rfl, hm⟩; have HM3 := Lib.hid hm; clear hm)
          | (go_at_call 11; refine (give_at HM3.out HI.out HS.out HGV.out).mono ?_; rintro e w4 ⟨vc4, vl4, rfl, hm⟩; have HM4 := Lib.hid hm; clear hm)
          | (go_at_call 9; refine (awake_true _).mono ?_; rintro e w5 ⟨rfl, hb5⟩))
        go_ret
        exact ⟨rfl, HM4.out.b.trans (hb5.mono HM4.out.b.size)⟩
      · obtain ⟨n, rfl⟩ : ∃ n : Nat, words = n := ⟨words.toNat, by omega⟩
        have HGV := Lib.hid (give_new_ok c n (by omega) (by omega) (by omega))
        have HH : Hid (∀ vc vl W, Mine w w.heap.size vc vl (giveAt (newA c) 0 0 n) W → Calls Try.prog 21 #[.pointer (some ⟨w.heap.size, 0, none⟩)] W fun e w' => e = .returned (.int .i64 n) ∧ w' = W) := fun vc vl W hM => by
          have := high_any _ _ _ _ W hM.ar
          have e : (giveAt (newA c) 0 0 n).high = n := by show max 0 (0 + n) = n; omega
          rw [e] at this
          exact this
        go_enter Try.func5, Try.ntmps5
        go_wp2_with (first
          | (go_at_call 10; refine (new_ok c w hc).mono ?_; rintro e w1 ⟨rfl, hw1⟩; rw [← hw1] at HM0; clear hw1)
          | (go_at_call 20; refine (HC.out _ HM0.out).mono ?_; rintro e w2 ⟨rfl, rfl⟩)
          | (go_at_call 13; refine (HL.out _ HM0.out).mono ?_; rintro e w2 ⟨rfl, rfl⟩)
          | (go_at_call 12; refine (free_at HM0.out HI.out HS.out (er := 14) (a' := newA c) rfl).mono ?_; rintro e w3 ⟨vc3, vl3, rfl, hm⟩; have HM3 := Lib.hid hm; clear hm)
          | (go_at_call 11; refine (give_at HM3.out HI.out HS.out HGV.out).mono ?_; rintro e w4 ⟨vc4, vl4, rfl, hm⟩; have HM4 := Lib.hid hm; clear hm)
          | (go_at_call 21; refine (HH.out _ _ _ HM4.out).mono ?_; rintro e w2 ⟨rfl, rfl⟩)
          | (go_at_call 9; refine (awake_true _).mono ?_; rintro e w5 ⟨rfl, hb5⟩))
        go_ret
        exact ⟨rfl, HM4.out.b.trans (hb5.mono HM4.out.b.size)⟩
end Go.Proofs.Ytpjgoiogpgggeaa
