/- The law's fixed answer 'awake': true. Conditions: none. -/
import Derived.Test.YtpjgoiogpgggeaaArL
namespace Go.Proofs.Ytpjgoiogpgggeaa
open Go.RowKit
section
variable {w0 w : World} {g : Nat} {vc vl : Value} {a a' : Ar}
theorem give_at (hM : Mine w0 g vc vl a w) (hI : Inv a) (hs : Sml a) {n r er : Int} (he : giveF a n = (a', r, er)) :
    Calls Try.prog 11 #[.pointer (some ⟨g, 0, none⟩), .int .i64 n] w fun e w' => ∃ vc' vl', e = .returned (.tuple #[.int .i64 r, .int .i64 er]) ∧ Mine w0 g vc' vl' a' w' := by
  have := give_c g vc vl a n w hM.ar hI hs
  rw [he] at this
  exact this.mono fun e w' hp => by obtain ⟨vc', vl', h1, h2, _⟩ := hM.next hp; exact ⟨vc', vl', h1, h2⟩
theorem free_at (hM : Mine w0 g vc vl a w) (hI : Inv a) (hs : Sml a) {N er : Int} (he : freeF a N = (a', er)) :
    Calls Try.prog 12 #[.pointer (some ⟨g, 0, none⟩), .int .i64 N] w fun e w' => ∃ vc' vl', e = .returned (.int .i64 er) ∧ Mine w0 g vc' vl' a' w' := by
  have := free_c g vc vl a N w hM.ar hI hs
  rw [he] at this
  exact this.mono fun e w' hp => by obtain ⟨vc', vl', h1, h2, _⟩ := hM.next hp; exact ⟨vc', vl', h1, h2⟩
theorem put_at (hM : Mine w0 g vc vl a w) (hI : Inv a) (hs : Sml a) {N er : Int} {A : Option Addr} {n c : Nat} {ys : List Int} (hy : RdF w A ys) (hn : n = ys.length) (he : putF a N ys = (a', er)) :
    Calls Try.prog 14 #[.pointer (some ⟨g, 0, none⟩), .int .i64 N, .slice A n c] w fun e w' => ∃ vc' vl', e = .returned (.int .i64 er) ∧ Mine w0 g vc' vl' a' w' := by
  subst hn
  have := put_c g vc vl a N A c ys w hM.ar hI hs hy
  rw [he] at this
  exact this.mono fun e w' hp => by obtain ⟨vc', vl', h1, h2, _⟩ := hM.next hp; exact ⟨vc', vl', h1, h2⟩
end
def B1 : Ar := ⟨4, [0], [⟨1, 0, 1⟩], 1, 1, 1, 1, 0⟩
def B2 : Ar := ⟨4, [0, 0, 0], [⟨1, 0, 1⟩, ⟨2, 1, 2⟩], 2, 3, 3, 3, 0⟩
def B3 : Ar := ⟨4, [0, 0, 0, 0], [⟨1, 0, 1⟩, ⟨2, 1, 2⟩, ⟨3, 3, 1⟩], 3, 4, 4, 4, 0⟩
def B4 : Ar := ⟨4, [0, 7, 8, 0], [⟨1, 0, 1⟩, ⟨2, 1, 2⟩, ⟨3, 3, 1⟩], 3, 4, 4, 4, 0⟩
def B5 : Ar := ⟨4, [0, 7, 8, 0], [⟨2, 1, 2⟩, ⟨3, 3, 1⟩], 3, 3, 4, 4, 0⟩
def B6 : Ar := ⟨4, [0, 7, 8, 0], [⟨2, 1, 2⟩], 3, 2, 4, 4, 0⟩
def B7 : Ar := ⟨4, [7, 8, 0, 0], [⟨2, 0, 2⟩, ⟨4, 2, 2⟩], 4, 4, 4, 4, 1⟩
theorem aw1 : giveF (newA 4) 1 = (B1, 1, 0) := by kernel_rfl
theorem aw2 : giveF B1 2 = (B2, 2, 0) := by kernel_rfl
theorem aw3 : giveF B2 1 = (B3, 3, 0) := by kernel_rfl
theorem aw4 : putF B3 2 [7, 8] = (B4, 0) := by kernel_rfl
theorem aw5 : giveF B4 1 = (B4, 0, 15) := by kernel_rfl
theorem aw6 : freeF B4 1 = (B5, 0) := by kernel_rfl
theorem aw7 : freeF B5 3 = (B6, 0) := by kernel_rfl
theorem aw8 : giveF B6 2 = (B7, 4, 0) := by kernel_rfl
theorem awI1 : Inv B1 := by have := inv_giveF 1 (inv_new 4); rw [aw1] at this; exact this
theorem awI2 : Inv B2 := by have := inv_giveF 2 awI1; rw [aw2] at this; exact this
theorem awI3 : Inv B3 := by have := inv_giveF 1 awI2; rw [aw3] at this; exact this
theorem awI4 : Inv B4 := by have := inv_putF 2 [7, 8] awI3; rw [aw4] at this; exact this
theorem awI5 : Inv B5 := by have := inv_freeF 1 awI4; rw [aw6] at this; exact this
theorem awI6 : Inv B6 := by have := inv_freeF 3 awI5; rw [aw7] at this; exact this
theorem awI7 : Inv B7 := by have := inv_giveF 2 awI6; rw [aw8] at this; exact this
theorem awS0 : Sml (newA 4) := ⟨by decide, by decide, by decide⟩
theorem awS1 : Sml B1 := ⟨by decide, by decide, by decide⟩
theorem awS2 : Sml B2 := ⟨by decide, by decide, by decide⟩
theorem awS3 : Sml B3 := ⟨by decide, by decide, by decide⟩
theorem awS4 : Sml B4 := ⟨by decide, by decide, by decide⟩
theorem awS5 : Sml B5 := ⟨by decide, by decide, by decide⟩
theorem awS6 : Sml B6 := ⟨by decide, by decide, by decide⟩
theorem awS7 : Sml B7 := ⟨by decide, by decide, by decide⟩
theorem awHas : Has B7 2 [7, 8] := ⟨⟨2, 0, 2⟩, by simp [B7], rfl, rfl, fun j hj => by
  have : j = 0 ∨ j = 1 := by simp at hj; omega
  rcases this with rfl | rfl <;> rfl⟩
set_option maxRecDepth 100000 in
set_option maxHeartbeats 4000000 in
theorem awake_true (w : World) : Calls Try.prog 9 #[] w fun e w' => e = .returned (.bool true) ∧ Below w.heap.size w w' := by
  go_enter Try.func9, Try.ntmps9
  have HM0 := Lib.hid (Mine.new 4 w w (Below.refl _ _))
  go_wp2_with (go_at_call 10; refine (new_ok 4 w (by omega)).mono ?_; rintro e w1 ⟨rfl, rfl⟩)
  generalize hw1 : w.alloc _ = w1 at *
  clear hw1
  generalize w.heap.size = g at *
  go_wp2_with fail
  refine (give_at HM0.out (inv_new 4) awS0 aw1).mono ?_
  rintro e w2 ⟨vc1, vl1, rfl, hm⟩; have HM1 := Lib.hid hm; clear hm HM0
  go_wp2_with fail
  refine (give_at HM1.out awI1 awS1 aw2).mono ?_
  rintro e w3 ⟨vc2, vl2, rfl, hm⟩; have HM2 := Lib.hid hm; clear hm HM1
  go_wp2_with fail
  refine (give_at HM2.out awI2 awS2 aw3).mono ?_
  rintro e w4 ⟨vc3, vl3, rfl, hm⟩; have HM3 := Lib.hid hm; clear hm HM2
  go_wp2_with fail
  have hy : RdF (w4.alloc (.cells #[.int .i64 7, .int .i64 8] 59)) (some ⟨w4.heap.size, 0, none⟩) [7, 8] := ⟨by simp, fun _ => ⟨_, 0, rfl, by simp, fun j u hu => by
    rw [(Blk.new w4 59 #[.int .i64 7, .int .i64 8]).cell]
    simpa [ivals] using hu⟩⟩
  refine (put_at (HM3.out.below ((Below.refl _ _).alloc (Nat.le_refl _) _)) awI3 awS3 hy rfl aw4).mono ?_
  rintro e w5 ⟨vc4, vl4, rfl, hm⟩; have HM4 := Lib.hid hm; clear hm HM3 hy
  go_wp2_with fail
  refine (give_at HM4.out awI4 awS4 aw5).mono ?_
  rintro e w6 ⟨vc5, vl5, rfl, hm⟩; have HM5 := Lib.hid hm; clear hm HM4
  go_wp2_with fail
  refine (free_at HM5.out awI4 awS4 aw6).mono ?_
  rintro e w7 ⟨vc6, vl6, rfl, hm⟩; have HM6 := Lib.hid hm; clear hm HM5
  go_wp2_with fail
  refine (free_at HM6.out awI5 awS5 aw7).mono ?_
  rintro e w8 ⟨vc7, vl7, rfl, hm⟩; have HM7 := Lib.hid hm; clear hm HM6
  go_wp2_with fail
  refine (give_at HM7.out awI6 awS6 aw8).mono ?_
  rintro e w9 ⟨vc8, vl8, rfl, hm⟩; have HM8 := Lib.hid hm; clear hm HM7
  have HFI : Hid (Calls Try.prog 18 #[.pointer (some ⟨g, 0, none⟩), .int .i64 4] w9 fun e w' => e = .returned (.tuple #[.agg #[.int .i64 4, .int .i64 2, .int .i64 2], .int .i64 0]) ∧ Below w9.heap.size w9 w') := find_c g _ _ B7 4 w9 HM8.out.ar awI7 awS7
  have HGE : Hid (∀ W, Below w9.heap.size w9 W → Calls Try.prog 15 #[.pointer (some ⟨g, 0, none⟩), .int .i64 2] W (GetPost W [7, 8] 0)) := fun W hb => get_has g _ _ B7 2 [7, 8] W (HM8.out.ar.below hb) awI7 awS7 awHas
  have HMOVES : Hid (∀ W, Below w9.heap.size w9 W → Calls Try.prog 19 #[.pointer (some ⟨g, 0, none⟩)] W fun e w' => e = .returned (.int .i64 1) ∧ w' = W) := fun W hb => moves_any g _ _ B7 W (HM8.out.ar.below hb)
  have HLIVE : Hid (∀ W, Below w9.heap.size w9 W → Calls Try.prog 13 #[.pointer (some ⟨g, 0, none⟩)] W fun e w' => e = .returned (.int .i64 4) ∧ w' = W) := fun W hb => live_any g _ _ B7 W (HM8.out.ar.below hb)
  have HHIGH : Hid (∀ W, Below w9.heap.size w9 W → Calls Try.prog 21 #[.pointer (some ⟨g, 0, none⟩)] W fun e w' => e = .returned (.int .i64 4) ∧ w' = W) := fun W hb => high_any g _ _ B7 W (HM8.out.ar.below hb)
  go_wp2_with (first
    | (go_at_call 18; refine HFI.out.mono ?_; rintro e w10 ⟨rfl, hb⟩; have HB1 := Lib.hid (hb.alloc hb.size (.cells #[.int .i64 4, .int .i64 2, .int .i64 2] 45)); clear hb)
    | (go_at_call 15; refine (HGE.out _ HB1.out).mono ?_; rintro e w11 ⟨v', rfl, ho, hb, hv⟩; have HB2 := Lib.hid (HB1.out.trans (hb.mono HB1.out.size)); obtain ⟨r, c, rfl⟩ := own_some ho (by simp); have g1 : w11.cell? ⟨r, 1, none⟩ = some (.int .i64 8) := (ho.cellAt 1 (by simp)).trans rfl; have g4 := (Blk.new w10 45 #[.int .i64 4, .int .i64 2, .int .i64 2]).below hb (Blk.new w10 _ _).lt; have g5 := g4.cell 1; clear ho hb hv g4)
    | (go_at_call 19; refine (HMOVES.out _ HB2.out).mono ?_; rintro e w12 ⟨rfl, rfl⟩)
    | (go_at_call 13; refine (HLIVE.out _ HB2.out).mono ?_; rintro e w12 ⟨rfl, rfl⟩)
    | (go_at_call 21; refine (HHIGH.out _ HB2.out).mono ?_; rintro e w12 ⟨rfl, rfl⟩))
  go_ret
  exact ⟨rfl, HM8.out.b.trans (HB2.out.mono HM8.out.b.size)⟩
end Go.Proofs.Ytpjgoiogpgggeaa
