/- The law ArenaFirst, walked: true for every capacity, every list of sizes and every place in it. Conditions: none. -/
import Derived.Test.YtpjgoiogpgggeaaArN
import Derived.Test.YtpjgoiogpgggeaaOpen
namespace Go.Proofs.Ytpjgoiogpgggeaa
open Go.RowKit
def gids (n : Nat) : List Int := (List.range n).map fun (i : Nat) => (i : Int) + 1
theorem gids_succ (n : Nat) : gids (n + 1) = gids n ++ [(n : Int) + 1] := by simp [gids, List.range_succ]
theorem info_I : (Try.prog.info? 3).map (fun i => (i.zero, i.size, i.bytes, (Value.int .i64 0).cells.size)) = some (some (.int .i64 0), 1, 8, 1) := by kernel_rfl
/-- What holds at the loop's head. -/
structure FsI (w0 : World) (g cap k : Nat) (vc vl v : Value) (a : Ar) (W : World) : Prop where
  m : Mine w0 g vc vl a W
  gv : Gvn a cap
  lk : a.l.length ≤ k
  own : W.ownsRow 0 3 1 v a.l.length (ivals (gids a.l.length))
  ap : ∀ b, v.ownBlock = some b → Apart g vc vl b ∧ w0.heap.size ≤ b
def FsE (w0 : World) (g cap k : Nat) (v : Value) (W : World) : Prop := ∃ vc vl a, FsI w0 g cap k vc vl v a W
set_option maxRecDepth 100000 in
set_option maxHeartbeats 4000000 in
theorem first_walk (A : Option Addr) (c : Nat) (cap kk : Int) (l : List Int) (w : World) (hA : IsInts .i64 w A l) (hm : l.length ≤ 9223372036854775807) :
    Calls Try.prog 4 #[.int .i64 cap, .slice A l.length c, .int .i64 kk] w fun e w' => e = .returned (.bool true) ∧ Below w.heap.size w w' := by
  by_cases hbad : cap < 0 ∨ 300 < cap ∨ 50 < l.length
  · have hb1 : cap < 0 ∨ ¬ cap < 0 := by omega
    rcases hb1 with hb | hb
    · clear hbad hA
      go_enter Try.func4, Try.ntmps4
      go_wp2_with (go_at_call 9; refine (awake_true _).mono ?_; rintro e w2 ⟨rfl, hb2⟩)
      go_ret
      exact ⟨rfl, hb2⟩
    · have hb3 : 300 < cap ∨ ¬ 300 < cap := by omega
      rcases hb3 with hb3 | hb3
      · clear hbad hA
        go_enter Try.func4, Try.ntmps4
        go_wp2_with (go_at_call 9; refine (awake_true _).mono ?_; rintro e w2 ⟨rfl, hb2⟩)
        go_ret
        exact ⟨rfl, hb2⟩
      · have hb4 : (50 : Int) < (l.length : Int) := by omega
        clear hbad hA
        go_enter Try.func4, Try.ntmps4
        go_wp2_with (go_at_call 9; refine (awake_true _).mono ?_; rintro e w2 ⟨rfl, hb2⟩)
        go_ret
        exact ⟨rfl, hb2⟩
  · obtain ⟨n, rfl⟩ : ∃ n : Nat, cap = n := ⟨cap.toNat, by omega⟩
    have hn : n ≤ 300 := by omega
    have hl : l.length ≤ 50 := by omega
    have b1 : ¬ (n : Int) < 0 := by omega
    have b2 : ¬ (300 : Int) < (n : Int) := by omega
    have b3 : ¬ (50 : Int) < (l.length : Int) := by omega
    have HA := Lib.hid hA
    clear hbad hA hm
    have HF0 := Lib.hid (show FsI w w.heap.size n 0 (.slice none 0 0) (.slice none 0 0) (.slice none 0 0) (newA n) _ from ⟨Mine.new n w w (Below.refl _ _), gvn_new n, Nat.le_refl _, World.ownsRow_nil _ _ _ _, fun b hb => by simp [Value.ownBlock] at hb⟩)
    go_enter Try.func4, Try.ntmps4
    go_wp2_with (go_at_call 10; refine (new_ok n w (by omega)).mono ?_; rintro e w1 ⟨rfl, rfl⟩)
    generalize w.alloc _ = w1 at *
    go_loopw [9, 45] (fun v i wr => ∃ k : Nat, k ≤ l.length ∧ i = .int .i64 k ∧ FsE w w.heap.size n k v wr) (fun _ i _ => l.length - (intOf i).toNat)
    case atStart => exact ⟨0, Nat.zero_le _, rfl, _, _, _, HF0.out⟩
    case round =>
      obtain ⟨k, hk, rfl, vc, vl, a, hf⟩ := hrel
      clear HF0
      by_cases hlt : k < l.length
      · obtain ⟨b, o, rfl, hbl, hc⟩ := HA.out k hlt
        have hcl := (hf.m.b.cell (p := ⟨b, o + k, none⟩) hbl).trans hc
        have hlk := hf.lk
        have hS : Sml a := ⟨by rw [hf.gv.cap]; omega, by rw [hf.gv.ls]; omega, by rw [hf.gv.mv]; omega⟩
        have HGV := Lib.hid (give_kp hf.m hf.gv.inv hS l[k])
        obtain ⟨i0, hi0, hz0, hz1, hz2, hz3⟩ := info_parts4 info_I
        rcases gvn_give hf.gv l[k] with ⟨he, ha⟩ | ⟨he, hr, hg, hln⟩
        · have HN : Hid (∀ W vc' vl', Mine w w.heap.size vc' vl' (giveF a l[k]).1 W → Kp w.heap.size vc vl wr vc' vl' W → FsE w w.heap.size n (k + 1) u9 W) := fun W vc' vl' hm hkp => by
            rw [ha] at hm
            obtain ⟨q1, q2⟩ := hkp.own hf.own (fun b hb => (hf.ap b hb).1)
            exact ⟨vc', vl', a, hm, hf.gv, by omega, q1, fun b hb => ⟨q2 b hb, (hf.ap b hb).2⟩⟩
          have hne : ((giveF a l[k]).2.2 == 0) = false := by simpa using he
          clear he ha hf hc hbl
          generalize (giveF a l[k]).2.2 = er at *
          generalize (giveF a l[k]).2.1 = r at *
          go_wp2_with (go_at_call 11; refine HGV.out.mono ?_; rintro e w2 ⟨vc', vl', rfl, hm2, hk2⟩; have HX := Lib.hid (HN.out _ _ _ hm2 hk2); clear hm2 hk2)
          go_roundw
          case rel => exact ⟨k + 1, by omega, by go_num, HX.out⟩
          case measure => simp [intOf]; omega
        · obtain ⟨A9, c9, hu9⟩ := own_slice hf.own
          subst hu9
          have HN : Hid (∀ W vc' vl', Mine w w.heap.size vc' vl' (giveF a l[k]).1 W → Kp w.heap.size vc vl wr vc' vl' W → W.ownsRow 0 3 1 (.slice A9 a.l.length c9) a.l.length (ivals (gids a.l.length)) ∧ ∀ v' W2, W2.ownsRow 0 3 1 v' (a.l.length + 1) (ivals (gids a.l.length) ++ [.int .i64 ((a.l.length : Int) + 1)]) → W.grownBy W2 (Value.slice A9 a.l.length c9).ownBlock → (v'.ownBlock = (Value.slice A9 a.l.length c9).ownBlock ∨ ∀ b, v'.ownBlock = some b → W.heap.size ≤ b) → FsE w w.heap.size n (k + 1) v' W2) := fun W vc' vl' hm hkp => by
            obtain ⟨q1, q2⟩ := hkp.own hf.own (fun b hb => (hf.ap b hb).1)
            refine ⟨q1, fun v' W2 h1 h2 h3 => ?_⟩
            have hcn : ∀ b, vc'.ownBlock = some b → (Value.slice A9 a.l.length c9).ownBlock ≠ some b := fun b hb e => (q2 b e).2.1 hb
            have hln' : ∀ b, vl'.ownBlock = some b → (Value.slice A9 a.l.length c9).ownBlock ≠ some b := fun b hb e => (q2 b e).2.2 hb
            have hgn : (Value.slice A9 a.l.length c9).ownBlock ≠ some w.heap.size := fun e => (q2 _ e).1 rfl
            have hfr : Frm [(Value.slice A9 a.l.length c9).ownBlock] W W2 := (Frm.refl _ W).grown h2 (fun k hk => .inl (by rw [← hk]; simp))
            have hm2 : Mine w w.heap.size vc' vl' (giveF a l[k]).1 W2 := by
              refine ⟨⟨hm.ar.blk.frm hfr (by simpa using fun e => hgn e.symm), hfr.own hm.ar.c (fun b hb => by simpa using fun e => hcn b hb e.symm), hfr.own hm.ar.l (fun b hb => by simpa using fun e => hln' b hb e.symm)⟩, hm.b.trans (hfr.below hm.b.size fun x hx => ?_), hm.g0, hm.c0, hm.l0⟩
              simp only [List.mem_singleton] at hx
              exact (hf.ap x hx.symm).2
            refine ⟨vc', vl', _, hm2, hg, by omega, by rw [hln, gids_succ]; simpa [ivals] using h1, fun b hb => ?_⟩
            rcases h3 with h3 | h3
            · have hb' : (Value.slice A9 a.l.length c9).ownBlock = some b := by rw [← h3]; exact hb
              exact ⟨q2 b hb', (hf.ap b hb').2⟩
            · have hbW := h3 b hb
              refine ⟨⟨fun e => ?_, fun e => ?_, fun e => ?_⟩, Nat.le_trans hm.b.size hbW⟩
              · have := hm.ar.blk.lt; omega
              · have := (hm.ar.c.lt b e).2; omega
              · have := (hm.ar.l.lt b e).2; omega
          have hmr := hf.lk
          clear hf hc hbl hS
          generalize (giveF a l[k]).2.2 = er at *
          generalize (giveF a l[k]).2.1 = r at *
          subst he
          subst hr
          go_wp2_with (first
            | (go_at_call 11; refine HGV.out.mono ?_; rintro e w2 ⟨vc', vl', rfl, hm2, hk2⟩; obtain ⟨ho2, hx2⟩ := HN.out _ _ _ hm2 hk2; have HO := Lib.hid ho2; have HX := Lib.hid hx2; clear hm2 hk2 ho2 hx2)
            | (at_builtin; refine wpList_append_one rfl (.tmp 57) (.tmp 59) _ rfl Try.underlying43 hi0 hz0 hz1 hz2 hz3 (by omega) rfl HO.out [.int .i64 ((a.l.length : Int) + 1)] rfl (by simp [Value.oneCell']) rfl rfl (by omega) (by omega) ?_; intro v' w3 h1 h2 h3; have HY := Lib.hid (HX.out v' w3 h1 h2 h3); clear h1 h2 h3))
          go_roundw
          case rel => exact ⟨k + 1, by omega, by go_num, HY.out⟩
          case measure => simp [intOf]; omega
      · obtain rfl : k = l.length := by omega
        obtain ⟨A9, c9, hu9⟩ := own_slice hf.own
        subst hu9
        have hmb := hf.m.b
        by_cases hk2 : kk < 0 ∨ (a.l.length : Int) ≤ kk
        · have HB := Lib.hid hmb
          clear hf hmb
          rcases hk2 with hk2 | hk2
          · go_wp2_with (go_at_call 9; refine (awake_true _).mono ?_; rintro e w2 ⟨rfl, hb2⟩)
            go_ret
            exact ⟨rfl, HB.out.trans (hb2.mono HB.out.size)⟩
          · have hk3 : ¬ kk < 0 := by omega
            go_wp2_with (go_at_call 9; refine (awake_true _).mono ?_; rintro e w2 ⟨rfl, hb2⟩)
            go_ret
            exact ⟨rfl, HB.out.trans (hb2.mono HB.out.size)⟩
        · obtain ⟨K, rfl⟩ : ∃ K : Nat, kk = K := ⟨kk.toNat, by omega⟩
          have hK : K < a.l.length := by omega
          have k1 : ¬ (K : Int) < 0 := by omega
          have k2 : (K : Int) < (a.l.length : Int) := by omega
          have hlk := hf.lk
          have hS : Sml a := ⟨by rw [hf.gv.cap]; omega, by rw [hf.gv.ls]; omega, by rw [hf.gv.mv]; omega⟩
          obtain ⟨q1, q2, q3, q4⟩ := gvn_again hf.gv hn hK
          have hI2 := inv_freeAt hf.gv.inv hK
          have hS2 : Sml (freeAt a K) := ⟨hS.cap, hS.last, hS.moves⟩
          have hI3 : Inv (giveAt (freeAt a K) a.l[K].f K a.l[K].w) := by have := inv_giveF (a.l[K].w : Int) hI2; rw [q2] at this; exact this
          have hS3 : Sml (giveAt (freeAt a K) a.l[K].f K a.l[K].w) := ⟨hS.cap, by show a.last + 1 ≤ _; rw [hf.gv.ls]; omega, hS.moves⟩
          have hmv3 : (giveAt (freeAt a K) a.l[K].f K a.l[K].w).moves = 0 := hf.gv.mv
          have hhx := gvn_hix hf.gv hK
          have hh1 : a.l[K].h = K + 1 := hf.gv.hh K hK
          have hgd : a.l.getD K ⟨0, 0, 0⟩ = a.l[K] := by simp [hK]
          obtain ⟨r, hA9⟩ : ∃ r, A9 = some ⟨r, 0, none⟩ := by
            obtain ⟨r, c, h⟩ := own_some hf.own (by omega)
            injection h with h _ _
            exact ⟨r, h⟩
          subst hA9
          have hrl : r < wr.heap.size := (hf.own.lt r rfl).2
          have hcK : wr.cell? ⟨r, K, none⟩ = some (.int .i64 ((K : Int) + 1)) := by
            rw [hf.own.cellAt K (by omega)]
            simp [ivals, gids, hK]
          have HFI : Hid (Calls Try.prog 18 #[.pointer (some ⟨w.heap.size, 0, none⟩), .int .i64 ((K : Int) + 1)] wr fun e w' => e = .returned (.tuple #[.agg #[.int .i64 a.l[K].h, .int .i64 a.l[K].f, .int .i64 a.l[K].w], .int .i64 0]) ∧ Below wr.heap.size wr w') := by
            have := find_c _ _ _ a ((K : Int) + 1) wr hf.m.ar hf.gv.inv hS
            rw [hhx] at this
            simp only [fiVals, hgd, bagg] at this
            exact this
          have HST : Hid (∀ w2, Below wr.heap.size wr w2 → Calls Try.prog 12 #[.pointer (some ⟨w.heap.size, 0, none⟩), .int .i64 ((K : Int) + 1)] (w2.alloc (.cells #[.int .i64 a.l[K].h, .int .i64 a.l[K].f, .int .i64 a.l[K].w] 45)) fun e w4 => ∃ vc4 vl4, e = .returned (.int .i64 0) ∧ Mine w w.heap.size vc4 vl4 (freeAt a K) w4 ∧ Blk w4 w2.heap.size 45 #[.int .i64 a.l[K].h, .int .i64 a.l[K].f, .int .i64 a.l[K].w] ∧ Apart w.heap.size vc4 vl4 w2.heap.size) := fun w2 hb => by
            have hm2 := (hf.m.below hb)
            have hm3 := hm2.below ((Below.refl _ _).alloc (Nat.le_refl _) (.cells #[.int .i64 a.l[K].h, .int .i64 a.l[K].f, .int .i64 a.l[K].w] 45))
            refine (free_kpe hm3 hf.gv.inv hS q1).mono ?_
            rintro e w4 ⟨vc4, vl4, rfl, hm4, hk4⟩
            obtain ⟨z1, z2⟩ := hk4.blk _ _ _ (Blk.new w2 45 #[.int .i64 a.l[K].h, .int .i64 a.l[K].f, .int .i64 a.l[K].w]) ⟨fun e => by have := hm2.ar.blk.lt; omega, fun e => by have := (hm2.ar.c.lt _ e).2; omega, fun e => by have := (hm2.ar.l.lt _ e).2; omega⟩
            exact ⟨vc4, vl4, rfl, hm4, z1, z2⟩
          have HGV : Hid (∀ w4 vc4 vl4 p cs, Mine w w.heap.size vc4 vl4 (freeAt a K) w4 → Blk w4 p 45 cs → Apart w.heap.size vc4 vl4 p → Calls Try.prog 11 #[.pointer (some ⟨w.heap.size, 0, none⟩), .int .i64 (a.l[K].w : Int)] w4 fun e w5 => ∃ vc5 vl5, e = .returned (.tuple #[.int .i64 ((a.last : Int) + 1), .int .i64 0]) ∧ Mine w w.heap.size vc5 vl5 (giveAt (freeAt a K) a.l[K].f K a.l[K].w) w5 ∧ Blk w5 p 45 cs) := fun w4 vc4 vl4 p cs hm hb ha => by
            refine (give_kpe hm hI2 hS2 q2).mono ?_
            rintro e w5 ⟨vc5, vl5, rfl, hm5, hk5⟩
            exact ⟨vc5, vl5, rfl, hm5, (hk5.blk _ _ _ hb ha).1⟩
          have HFI2 : Hid (∀ w5 vc5 vl5, Mine w w.heap.size vc5 vl5 (giveAt (freeAt a K) a.l[K].f K a.l[K].w) w5 → Calls Try.prog 18 #[.pointer (some ⟨w.heap.size, 0, none⟩), .int .i64 ((a.last : Int) + 1)] w5 fun e w' => e = .returned (.tuple #[.agg #[.int .i64 ((a.last : Int) + 1), .int .i64 a.l[K].f, .int .i64 a.l[K].w], .int .i64 0]) ∧ Below w5.heap.size w5 w') := fun w5 vc5 vl5 hm => by
            have := find_c _ _ _ _ ((a.last : Int) + 1) w5 hm.ar hI3 hS3
            rw [q3] at this
            simp only [fiVals, q4, bagg] at this
            exact this
          have HMV : Hid (∀ w5 vc5 vl5, Mine w w.heap.size vc5 vl5 (giveAt (freeAt a K) a.l[K].f K a.l[K].w) w5 → Calls Try.prog 19 #[.pointer (some ⟨w.heap.size, 0, none⟩)] w5 fun e w' => e = .returned (.int .i64 0) ∧ w' = w5) := fun w5 vc5 vl5 hm => by
            have := moves_any _ _ _ _ w5 hm.ar
            rw [hmv3] at this
            exact this
          clear hf hI2 hS2 hI3 hS3 hmv3 q1 q2 q3 q4 hS hh1 hhx hgd hk2 hmb
          generalize (giveAt (freeAt a K) a.l[K].f K a.l[K].w) = a3 at *
          generalize freeAt a K = a2 at *
          generalize a.l[K] = q at *
          obtain ⟨qh, qf, qw⟩ := q
          simp only at *
          go_wp2_with (first
            | (go_at_call 18; refine HFI.out.mono ?_; rintro e w2 ⟨rfl, hb2⟩; have hcK2 := (hb2.cell (p := ⟨r, K, none⟩) hrl).trans hcK; have hcK3 := (((Below.refl w2.heap.size w2).alloc (Nat.le_refl _) (.cells #[.int .i64 qh, .int .i64 qf, .int .i64 qw] 45)).cell (p := ⟨r, K, none⟩) (Nat.lt_of_lt_of_le hrl hb2.size)).trans hcK2; have HB2 := Lib.hid hb2; clear hb2 HFI)
            | (go_at_call 12; refine (HST.out w2 HB2.out).mono ?_; rintro e w4 ⟨vc4, vl4, rfl, hm4, hb4, ha4⟩; have x2 := hb4.cell 2; simp only [List.getElem?_toArray, List.getElem?_cons_zero, List.getElem?_cons_succ] at x2; have HM4 := Lib.hid hm4; have HB4 := Lib.hid hb4; have HA4 := Lib.hid ha4; clear hm4 hb4 ha4 HST)
            | (go_at_call 11; refine (HGV.out w4 vc4 vl4 w2.heap.size _ HM4.out HB4.out HA4.out).mono ?_; rintro e w5 ⟨vc5, vl5, rfl, hm5, hb5⟩; have HM5 := Lib.hid hm5; have HB5 := Lib.hid hb5; clear hm5 hb5 HGV)
            | (go_at_call 18; refine (HFI2.out w5 vc5 vl5 HM5.out).mono ?_; rintro e w6 ⟨rfl, hb6⟩; have hb7 := (HB5.out.below hb6 HB5.out.lt).alloc (.cells #[.int .i64 ((a.last : Int) + 1), .int .i64 qf, .int .i64 qw] 45); have y1 := hb7.cell 1; have y2 := hb7.cell 2; have hn7 := Blk.new w6 45 #[.int .i64 ((a.last : Int) + 1), .int .i64 qf, .int .i64 qw]; have z1 := hn7.cell 1; have z2 := hn7.cell 2; simp only [List.getElem?_toArray, List.getElem?_cons_zero, List.getElem?_cons_succ] at y1 y2 z1 z2; have HM7 := Lib.hid ((HM5.out.below hb6).below ((Below.refl _ _).alloc (Nat.le_refl _) (.cells #[.int .i64 ((a.last : Int) + 1), .int .i64 qf, .int .i64 qw] 45))); clear hb7 hn7 hb6)
            | (go_at_call 19; refine (HMV.out _ vc5 vl5 HM7.out).mono ?_; rintro e w8 ⟨rfl, rfl⟩)
            | (go_at_call 9; refine (awake_true _).mono ?_; rintro e w9 ⟨rfl, hb9⟩))
          go_ret
          exact ⟨rfl, HM7.out.b.trans (hb9.mono HM7.out.b.size)⟩
end Go.Proofs.Ytpjgoiogpgggeaa
