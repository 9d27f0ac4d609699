/- The law ArenaKeeps, walked: true for every capacity, every list of calls and all cells. Conditions: none. -/
import Derived.Test.YtpjgoiogpgggeaaSmK
namespace Go.Proofs.Ytpjgoiogpgggeaa
open Go.RowKit Go.Proofs.Ytpjgoiogpgggeaa.PRef Go.Proofs.YtpjgoiogpgggeaaW.PrintWords
/-- What holds at a loop's head: an arena, its invariant, its counts. -/
structure KpI (w0 : World) (g cap k : Nat) (vc vl : Value) (a : Ar) (W : World) : Prop where
  m : Mine w0 g vc vl a W
  inv : Inv a
  ct : Cnt a cap k
def KpE (w0 : World) (g cap k : Nat) (W : World) : Prop := ∃ vc vl a, KpI w0 g cap k vc vl a W
def KhE (w0 : World) (g cap k h : Nat) (ys : List Int) (W : World) : Prop := ∃ vc vl a, KpI w0 g cap k vc vl a W ∧ Has a h ys
theorem KhE.below {w0 W W' : World} {g cap k h : Nat} {ys : List Int} (hk : KhE w0 g cap k h ys W) (hb : Below W.heap.size W W') : KhE w0 g cap k h ys W' := by
  obtain ⟨vc, vl, a, hi, hh⟩ := hk
  exact ⟨vc, vl, a, ⟨hi.m.below hb, hi.inv, hi.ct⟩, hh⟩
theorem KhE.old {w0 W : World} {g cap k h : Nat} {ys : List Int} (hk : KhE w0 g cap k h ys W) : Below w0.heap.size w0 W := by
  obtain ⟨vc, vl, a, hi, hh⟩ := hk
  exact hi.m.b
theorem khe_get {w0 W : World} {g cap k h : Nat} {ys : List Int} (hk : KhE w0 g cap k h ys W) (hc : cap ≤ 300) (hkk : k ≤ 1000000) (hy : ys.length ≤ 1000000) :
    Calls Try.prog 15 #[.pointer (some ⟨g, 0, none⟩), .int .i64 (h : Int)] W fun e w' => ∃ B d, e = .returned (.tuple #[.slice B ys.length d, .int .i64 0]) ∧ KhE w0 g cap k h ys w' ∧ (Kd.int .i64).C w' B ys.length ys ∧ ys.length ≤ d := by
  obtain ⟨vc, vl, a, hi, hh⟩ := id hk
  refine (get_has g vc vl a h ys W hi.m.ar hi.inv (hi.ct.sml (by omega) hkk) hh).mono ?_
  rintro e w' ⟨v', rfl, ho, hb, _⟩
  obtain ⟨B, d, rfl⟩ := own_slice ho
  obtain ⟨h1, h2⟩ := own_C ho hy
  exact ⟨B, d, rfl, hk.below hb, h1, h2⟩
theorem plain_c {W : World} {A : Option Addr} {c : Nat} {ys : List Int} (hr : (Kd.int .i64).C W A ys.length ys) (hc : ys.length ≤ c) (hy : ys.length ≤ 1000000) :
    Calls Try.prog 17 #[.slice A ys.length c] W fun e w' => ∃ B d, e = .returned (.slice B ys.length d) ∧ (Kd.int .i64).C w' B ys.length ys ∧ ys.length ≤ d ∧ Below W.heap.size W w' := by
  refine (athanorlaw15_plain.calls _ A c ys ys W hr hc (plain_f ys hy)).mono ?_
  rintro e w' ⟨v, rfl, hR, hb⟩
  obtain ⟨B, d, rfl, h1, h2⟩ := Kd.R_reads hR
  exact ⟨B, d, rfl, h2, h1, hb⟩
theorem same_c {W : World} {A B : Option Addr} {c d : Nat} {ys : List Int} (hr : (Kd.int .i64).C W A ys.length ys) (hc : ys.length ≤ c) (hr2 : (Kd.int .i64).C W B ys.length ys) (hc2 : ys.length ≤ d) (hy : ys.length ≤ 1000000) :
    Calls Try.prog 16 #[.slice A ys.length c, .slice B ys.length d] W fun e w' => e = .returned (.bool true) ∧ Below W.heap.size W w' := by
  refine (athanorlaw15_same.calls _ A c ys B d ys true W hr hc hr2 hc2 (same_f ys hy)).mono ?_
  rintro e w' ⟨rfl, ⟨n, rfl⟩⟩
  exact ⟨rfl, ⟨rfl, rfl, rfl, Nat.le_refl _, fun _ _ => rfl⟩⟩
set_option maxRecDepth 100000 in
set_option maxHeartbeats 8000000 in
theorem keeps_walk (A1 A2 : Option Addr) (c1 c2 : Nat) (cap : Int) (l : List ROp) (ys : List Int) (w : World) (hA : Kd.C k31 w A1 l.length l) (hc1 : l.length ≤ c1) (hY : (Kd.int .i64).C w A2 ys.length ys) (hc2 : ys.length ≤ c2) :
    Calls Try.prog 3 #[.int .i64 cap, .slice A1 l.length c1, .slice A2 ys.length c2] w fun e w' => e = .returned (.bool true) ∧ Below w.heap.size w w' := by
  obtain ⟨m1, m2⟩ := ops_max hA
  have m3 := hY.2.1
  obtain ⟨ks, r, hsf, hsr⟩ := small_f cap l m1 m2
  have HSM := Lib.hid (athanorlaw15_small.calls ks cap A1 c1 l r w hA hc1 hsf)
  clear hsf m2
  cases r with
  | false =>
    clear hA hY hsr
    go_enter Try.func3, Try.ntmps3
    go_wp2_with (first | (go_at_call 8; refine HSM.out.mono ?_; rintro e w1 ⟨rfl, hb1⟩) | (go_at_call 9; refine (awake_true _).mono ?_; rintro e w2 ⟨rfl, hb2⟩))
    go_ret
    exact ⟨rfl, hb1.trans (hb2.mono hb1.size)⟩
  | true =>
    obtain ⟨s1, s2, s3, s4⟩ := hsr rfl
    obtain ⟨n, rfl⟩ : ∃ n : Nat, cap = n := ⟨cap.toNat, by omega⟩
    by_cases hbad : ys.length < 1 ∨ n < ys.length
    · clear hA hY hsr s4
      rcases hbad with hb | hb
      · have b1 : (ys.length : Int) < 1 := by omega
        go_enter Try.func3, Try.ntmps3
        go_wp2_with (first | (go_at_call 8; refine HSM.out.mono ?_; rintro e w1 ⟨rfl, hb1⟩) | (go_at_call 9; refine (awake_true _).mono ?_; rintro e w2 ⟨rfl, hb2⟩))
        go_ret
        exact ⟨rfl, hb1.trans (hb2.mono hb1.size)⟩
      · have b1 : ¬ (ys.length : Int) < 1 := by omega
        have b2 : (n : Int) < (ys.length : Int) := by omega
        go_enter Try.func3, Try.ntmps3
        go_wp2_with (first | (go_at_call 8; refine HSM.out.mono ?_; rintro e w1 ⟨rfl, hb1⟩) | (go_at_call 9; refine (awake_true _).mono ?_; rintro e w2 ⟨rfl, hb2⟩))
        go_ret
        exact ⟨rfl, hb1.trans (hb2.mono hb1.size)⟩
    · have y1 : 1 ≤ ys.length := by omega
      have y2 : ys.length ≤ n := by omega
      have b1 : ¬ (ys.length : Int) < 1 := by omega
      have b2 : ¬ (n : Int) < (ys.length : Int) := by omega
      have HA := Lib.hid hA; have HY := Lib.hid hY; have HF4 := Lib.hid s4
      clear hA hY hbad hsr s4
      have HM0 : Hid (∀ w1, Below w.heap.size w w1 → KpE w w1.heap.size n 0 (w1.alloc (.cells #[.int .i64 n, .slice none 0 0, .slice none 0 0, .int .i64 0, .int .i64 0, .int .i64 0, .int .i64 0, .int .i64 0] 62))) := fun w1 hb => ⟨_, _, _, Mine.new n w w1 hb, inv_new n, ⟨rfl, Nat.le_refl _, Nat.le_refl _⟩⟩
      go_enter Try.func3, Try.ntmps3
      go_wp2_with (first | (go_at_call 8; refine HSM.out.mono ?_; rintro e w1 ⟨rfl, hb1⟩; have HM1 := Lib.hid (HM0.out w1 hb1); clear hb1) | (go_at_call 10; refine (new_ok n _ (by omega)).mono ?_; rintro e w2 ⟨rfl, rfl⟩))
      generalize w1.alloc _ = w2 at *
      generalize w1.heap.size = g at *
      clear HM0
      go_loopw [46] (fun i wr => ∃ k : Nat, k ≤ l.length ∧ i = .int .i64 k ∧ KpE w g n k wr) (fun i _ => l.length - (intOf i).toNat)
      case atStart => exact ⟨0, Nat.zero_le _, rfl, HM1.out⟩
      case round =>
        obtain ⟨k, hk, rfl, vc, vl, a, hf⟩ := hrel
        clear HM1
        have hS := hf.ct.sml (by omega) (show k ≤ 1000000 by omega)
        by_cases hlt : k < l.length
        · obtain ⟨b, o, B, cB, rfl, hbl, g0, g1, g2, _, _⟩ := ops_at (Kd.C_below HA.out hf.m.b) k hlt
          generalize l[k] = q at *
          obtain ⟨q0, q1, q2⟩ := q
          simp only at g0 g1 g2
          have HKM : Hid (∀ W, Below wr.heap.size wr W → KpI w g n k vc vl a W) := fun W hb => ⟨hf.m.below hb, hf.inv, hf.ct⟩
          have HBX : Hid (∀ vc' vl' W', Kp g vc vl (wr.alloc (.cells #[.int .i64 q0, .int .i64 q1, .slice B q2.length cB] 31)) vc' vl' W' → W'.cell? ⟨wr.heap.size, 0, none⟩ = some (.int .i64 q0)) := fun vc' vl' W' hk => by
            obtain ⟨z1, _⟩ := hk.blk _ _ _ (Blk.new wr 31 #[.int .i64 q0, .int .i64 q1, .slice B q2.length cB]) ⟨fun e => by have := hf.m.ar.blk.lt; omega, fun e => by have := (hf.m.ar.c.lt _ e).2; omega, fun e => by have := (hf.m.ar.l.lt _ e).2; omega⟩
            exact z1.cell 0
          have HIV := Lib.hid hf.inv; have HSM2 := Lib.hid hS; have HCT := Lib.hid hf.ct
          clear hf hS
          by_cases h1 : q0 = 1
          · subst h1
            go_wp2_with (go_at_call 11; refine (give_kp (HKM.out _ ((Below.refl _ _).alloc (Nat.le_refl _) _)).m HIV.out HSM2.out q1).mono ?_; rintro e w3 ⟨vc', vl', rfl, hm3, hk3⟩; have e0 := HBX.out _ _ _ hk3; have HX := Lib.hid (show KpE w g n (k + 1) w3 from ⟨vc', vl', _, hm3, inv_giveF q1 HIV.out, cnt_giveF q1 HCT.out⟩); clear hm3 hk3)
            go_roundw
            case rel => exact ⟨k + 1, by omega, by go_num, HX.out⟩
            case measure => simp [intOf]; omega
          · have h1b : (q0 == 1) = false := by simpa using h1
            by_cases h2 : q0 = 2
            · subst h2
              go_wp2_with (go_at_call 12; refine (free_kp (HKM.out _ ((Below.refl _ _).alloc (Nat.le_refl _) _)).m HIV.out HSM2.out q1).mono ?_; rintro e w3 ⟨vc', vl', rfl, hm3, _⟩; have HX := Lib.hid (show KpE w g n (k + 1) w3 from ⟨vc', vl', _, hm3, inv_freeF q1 HIV.out, (cnt_freeF q1 HCT.out).mono (by omega)⟩); clear hm3)
              go_roundw
              case rel => exact ⟨k + 1, by omega, by go_num, HX.out⟩
              case measure => simp [intOf]; omega
            · have h2b : (q0 == 2) = false := by simpa using h2
              go_wp2_with fail
              go_roundw
              case rel =>
                have := HKM.out _ ((Below.refl wr.heap.size wr).alloc (Nat.le_refl _) (.cells #[.int .i64 q0, .int .i64 q1, .slice B q2.length cB] 31))
                exact ⟨k + 1, by omega, by go_num, vc, vl, a, this.m, this.inv, this.ct.mono (by omega)⟩
              case measure => simp [intOf]; omega
        · obtain rfl : k = l.length := by omega
          have HGV := Lib.hid (give_kp hf.m hf.inv hS (ys.length : Int))
          have hIg := inv_giveF (ys.length : Int) hf.inv
          have hCg := cnt_giveF (ys.length : Int) hf.ct
          have hcapa := hf.ct.cap
          by_cases hfull : (a.cap : Int) < (a.live : Int) + (ys.length : Int)
          · have hgf : giveF a (ys.length : Int) = (a, 0, 15) := by unfold giveF; rw [if_neg (by omega), if_pos hfull]
            rw [hgf] at HGV
            have HLV : Hid (∀ W vc vl, Mine w g vc vl a W → Calls Try.prog 13 #[.pointer (some ⟨g, 0, none⟩)] W fun e w' => e = .returned (.int .i64 a.live) ∧ w' = W) := fun W vc vl hm => live_any _ _ _ _ W hm.ar
            have b3 : (n : Int) < (a.live : Int) + (ys.length : Int) := by omega
            have b4 : a.live ≤ 300 := by have := hf.inv.live; have := hf.inv.hc; omega
            clear hf hIg hCg hS hgf hcapa hfull
            go_wp2_with (first
              | (go_at_call 11; refine HGV.out.mono ?_; rintro e w3 ⟨vc', vl', rfl, hm3, _⟩; have HM3 := Lib.hid hm3; clear hm3)
              | (go_at_call 13; refine (HLV.out _ _ _ HM3.out).mono ?_; rintro e w4 ⟨rfl, rfl⟩)
              | (go_at_call 9; refine (awake_true _).mono ?_; rintro e w5 ⟨rfl, hb5⟩))
            go_ret
            exact ⟨rfl, HM3.out.b.trans (hb5.mono HM3.out.b.size)⟩
          · have hgf : giveF a (ys.length : Int) = (giveOk a ys.length, (a.last : Int) + 1, 0) := by unfold giveF; rw [if_neg (by omega), if_neg hfull, Int.toNat_natCast]
            have hnb := newblk_giveOk hf.inv y1 (by omega)
            rw [hgf] at HGV hIg hCg
            simp only at HGV hIg hCg
            have hSg := hCg.sml (by omega) (by omega)
            obtain ⟨i, hi, hq, he, hcc⟩ := has_hix hIg hnb
            have hyl : ys.length = (giveOk a ys.length).l[i].w := by have := hcc.1; simpa using this
            have hpf : putF (giveOk a ys.length) ((a.last : Int) + 1) ys = (putAt (giveOk a ys.length) i ys, 0) := by
              unfold putF
              rw [show ((a.last : Int) + 1) = ((a.last + 1 : Nat) : Int) from rfl, hq]
              simp only [show (giveOk a ys.length).l.getD i ⟨0, 0, 0⟩ = (giveOk a ys.length).l[i] from by simp [hi]]
              rw [if_pos hyl]
            have hIp := inv_putF ((a.last : Int) + 1) ys hIg
            have hCp := cnt_putF ((a.last : Int) + 1) ys hCg
            have hHp := has_put_self hIg hi hyl
            rw [he] at hHp
            rw [hpf] at hIp hCp
            simp only at hIp hCp
            have HPT : Hid (∀ W vc vl, Mine w g vc vl (giveOk a ys.length) W → Calls Try.prog 14 #[.pointer (some ⟨g, 0, none⟩), .int .i64 ((a.last : Int) + 1), .slice A2 ys.length c2] W fun e w' => e = .returned (.int .i64 0) ∧ KhE w g n (l.length + 1) (a.last + 1) ys w') := fun W vc vl hm => by
              have := put_kp hm hIg hSg ((a.last : Int) + 1) (c := c2) (C_RdF (Kd.C_below HY.out hm.b) (by omega))
              rw [hpf] at this
              exact this.mono fun e w' ⟨vc', vl', h1, h2, _⟩ => ⟨h1, vc', vl', _, ⟨h2, hIp, hCp⟩, hHp⟩
            have hla := hf.ct.last
            clear hf hIg hCg hS hgf hcapa hfull hnb hq he hcc hyl hpf hIp hCp hHp hSg
            generalize hH : a.last = hd at *
            clear hH
            go_wp2_with (first
              | (go_at_call 11; refine HGV.out.mono ?_; rintro e w3 ⟨vc', vl', rfl, hm3, _⟩; have HM3 := Lib.hid hm3; clear hm3)
              | (go_at_call 14; refine (HPT.out _ _ _ HM3.out).mono ?_; rintro e w4 ⟨rfl, hk4⟩; have HK4 := Lib.hid hk4; clear hk4))
            obtain ⟨wq, rfl⟩ : ∃ wq : World, wq = wr := ⟨_, rfl⟩
            clear HGV HPT HM3
            go_loopw [90] (fun i wr => ∃ k : Nat, k ≤ l.length ∧ i = .int .i64 k ∧ KhE w g n (l.length + 1 + k) (hd + 1) ys wr) (fun i _ => l.length - (intOf i).toNat)
            case atStart => exact ⟨0, Nat.zero_le _, rfl, HK4.out⟩
            case round =>
              obtain ⟨k, hk, rfl, vc, vl, a, hf, hh⟩ := hrel
              clear HK4
              have hS := hf.ct.sml (by omega) (show l.length + 1 + k ≤ 1000000 by omega)
              have s2' : n ≤ 300 := by omega
              by_cases hlt : k < l.length
              · obtain ⟨b, o, B, cB, rfl, hbl, g0, g1, g2, hg4, hg5⟩ := ops_at (Kd.C_below HA.out hf.m.b) k hlt
                have hq3 := HF4.out _ (List.getElem_mem hlt)
                generalize l[k] = q at *
                obtain ⟨q0, q1, q2⟩ := q
                simp only at g0 g1 g2 hg4 hg5 hq3
                have HKM : Hid (∀ W, Below wr.heap.size wr W → Mine w g vc vl a W ∧ RdF W B q2) := fun W hb => ⟨hf.m.below hb, (C_RdF hg5 (by omega)).below hb⟩
                have HNO : Hid (∀ W, Below wr.heap.size wr W → KhE w g n (l.length + 1 + (k + 1)) (hd + 1) ys W) := fun W hb => ⟨vc, vl, a, ⟨hf.m.below hb, hf.inv, hf.ct.mono (by omega)⟩, hh⟩
                have HIV := Lib.hid hf.inv; have HSM2 := Lib.hid hS; have HCT := Lib.hid hf.ct; have HHH := Lib.hid hh
                clear hf hS hh hg4 hg5
                by_cases h1 : q0 = 1
                · subst h1
                  go_wp2_with (first
                      | (go_at_call 11; refine (give_kp (HKM.out _ ((Below.refl _ _).alloc (Nat.le_refl _) _)).1 HIV.out HSM2.out q1).mono ?_; rintro e w3 ⟨vc', vl', rfl, hm3, _⟩; have HX := Lib.hid (show KhE w g n (l.length + 1 + (k + 1)) (hd + 1) ys w3 from ⟨vc', vl', _, ⟨hm3, inv_giveF q1 HIV.out, (cnt_giveF q1 HCT.out).mono (by omega)⟩, has_giveF q1 HIV.out HHH.out⟩); clear hm3)
                      | (go_at_call 15; refine (khe_get HX.out s2' (by omega) (by omega)).mono ?_; rintro e w4 ⟨B4, d4, rfl, hk4, hC4, hl4⟩; have HK4 := Lib.hid hk4; have HC4 := Lib.hid hC4; have HL4 := Lib.hid hl4; clear hk4 hC4 hl4)
                      | (go_at_call 17; refine (plain_c (Kd.C_below HY.out HK4.out.old) hc2 (by omega)).mono ?_; rintro e w5 ⟨B5, d5, rfl, hC5, hl5, hb5⟩; have HK5 := Lib.hid (HK4.out.below hb5); have HC45 := Lib.hid (Kd.C_below HC4.out hb5); have HC5 := Lib.hid hC5; have HL5 := Lib.hid hl5; clear hC5 hl5 hb5)
                      | (go_at_call 16; refine (same_c HC45.out HL4.out HC5.out HL5.out (by omega)).mono ?_; rintro e w6 ⟨rfl, hb6⟩; have HK6 := Lib.hid (HK5.out.below hb6); clear hb6))
                  go_roundw
                  case rel => exact ⟨k + 1, by omega, by go_num, HK6.out⟩
                  case measure => simp [intOf]; omega
                · have h1b : (q0 == 1) = false := by simpa using h1
                  by_cases h2 : q0 = 2
                  · subst h2
                    by_cases hh2 : q1 = (hd : Int) + 1
                    · subst hh2
                      have hb5 : (((hd : Int) + 1) != ((hd : Int) + 1)) = false := by simp
                      have HX : Hid (KhE w g n (l.length + 1 + (k + 1)) (hd + 1) ys (wr.alloc (.cells #[.int .i64 2, .int .i64 ((hd : Int) + 1), .slice B q2.length cB] 31))) := HNO.out _ ((Below.refl _ _).alloc (Nat.le_refl _) _)
                      go_wp2_with (first
                          | (go_at_call 15; refine (khe_get HX.out s2' (by omega) (by omega)).mono ?_; rintro e w4 ⟨B4, d4, rfl, hk4, hC4, hl4⟩; have HK4 := Lib.hid hk4; have HC4 := Lib.hid hC4; have HL4 := Lib.hid hl4; clear hk4 hC4 hl4)
                          | (go_at_call 17; refine (plain_c (Kd.C_below HY.out HK4.out.old) hc2 (by omega)).mono ?_; rintro e w5 ⟨B5, d5, rfl, hC5, hl5, hb5⟩; have HK5 := Lib.hid (HK4.out.below hb5); have HC45 := Lib.hid (Kd.C_below HC4.out hb5); have HC5 := Lib.hid hC5; have HL5 := Lib.hid hl5; clear hC5 hl5 hb5)
                          | (go_at_call 16; refine (same_c HC45.out HL4.out HC5.out HL5.out (by omega)).mono ?_; rintro e w6 ⟨rfl, hb6⟩; have HK6 := Lib.hid (HK5.out.below hb6); clear hb6))
                      go_roundw
                      case rel => exact ⟨k + 1, by omega, by go_num, HK6.out⟩
                      case measure => simp [intOf]; omega
                    · have hb5 : (q1 != ((hd : Int) + 1)) = true := by simpa using hh2
                      go_wp2_with (first
                          | (go_at_call 12; refine (free_kp (HKM.out _ ((Below.refl _ _).alloc (Nat.le_refl _) _)).1 HIV.out HSM2.out q1).mono ?_; rintro e w3 ⟨vc', vl', rfl, hm3, _⟩; have HX := Lib.hid (show KhE w g n (l.length + 1 + (k + 1)) (hd + 1) ys w3 from ⟨vc', vl', _, ⟨hm3, inv_freeF q1 HIV.out, (cnt_freeF q1 HCT.out).mono (by omega)⟩, has_freeF q1 (by omega) HHH.out⟩); clear hm3)
                          | (go_at_call 15; refine (khe_get HX.out s2' (by omega) (by omega)).mono ?_; rintro e w4 ⟨B4, d4, rfl, hk4, hC4, hl4⟩; have HK4 := Lib.hid hk4; have HC4 := Lib.hid hC4; have HL4 := Lib.hid hl4; clear hk4 hC4 hl4)
                          | (go_at_call 17; refine (plain_c (Kd.C_below HY.out HK4.out.old) hc2 (by omega)).mono ?_; rintro e w5 ⟨B5, d5, rfl, hC5, hl5, hb5⟩; have HK5 := Lib.hid (HK4.out.below hb5); have HC45 := Lib.hid (Kd.C_below HC4.out hb5); have HC5 := Lib.hid hC5; have HL5 := Lib.hid hl5; clear hC5 hl5 hb5)
                          | (go_at_call 16; refine (same_c HC45.out HL4.out HC5.out HL5.out (by omega)).mono ?_; rintro e w6 ⟨rfl, hb6⟩; have HK6 := Lib.hid (HK5.out.below hb6); clear hb6))
                      go_roundw
                      case rel => exact ⟨k + 1, by omega, by go_num, HK6.out⟩
                      case measure => simp [intOf]; omega
                  · have h2b : (q0 == 2) = false := by simpa using h2
                    by_cases h3 : q0 = 3
                    · subst h3
                      by_cases hh2 : q1 = (hd : Int) + 1
                      · subst hh2
                        have hb5 : (((hd : Int) + 1) != ((hd : Int) + 1)) = false := by simp
                        have HX : Hid (KhE w g n (l.length + 1 + (k + 1)) (hd + 1) ys (wr.alloc (.cells #[.int .i64 3, .int .i64 ((hd : Int) + 1), .slice B q2.length cB] 31))) := HNO.out _ ((Below.refl _ _).alloc (Nat.le_refl _) _)
                        go_wp2_with (first
                            | (go_at_call 15; refine (khe_get HX.out s2' (by omega) (by omega)).mono ?_; rintro e w4 ⟨B4, d4, rfl, hk4, hC4, hl4⟩; have HK4 := Lib.hid hk4; have HC4 := Lib.hid hC4; have HL4 := Lib.hid hl4; clear hk4 hC4 hl4)
                            | (go_at_call 17; refine (plain_c (Kd.C_below HY.out HK4.out.old) hc2 (by omega)).mono ?_; rintro e w5 ⟨B5, d5, rfl, hC5, hl5, hb5⟩; have HK5 := Lib.hid (HK4.out.below hb5); have HC45 := Lib.hid (Kd.C_below HC4.out hb5); have HC5 := Lib.hid hC5; have HL5 := Lib.hid hl5; clear hC5 hl5 hb5)
                            | (go_at_call 16; refine (same_c HC45.out HL4.out HC5.out HL5.out (by omega)).mono ?_; rintro e w6 ⟨rfl, hb6⟩; have HK6 := Lib.hid (HK5.out.below hb6); clear hb6))
                        go_roundw
                        case rel => exact ⟨k + 1, by omega, by go_num, HK6.out⟩
                        case measure => simp [intOf]; omega
                      · have hb5 : (q1 != ((hd : Int) + 1)) = true := by simpa using hh2
                        go_wp2_with (first
                            | (go_at_call 14; refine (put_kp (HKM.out _ ((Below.refl _ _).alloc (Nat.le_refl _) _)).1 HIV.out HSM2.out q1 (HKM.out _ ((Below.refl _ _).alloc (Nat.le_refl _) _)).2).mono ?_; rintro e w3 ⟨vc', vl', rfl, hm3, _⟩; have HX := Lib.hid (show KhE w g n (l.length + 1 + (k + 1)) (hd + 1) ys w3 from ⟨vc', vl', _, ⟨hm3, inv_putF q1 q2 HIV.out, (cnt_putF q1 q2 HCT.out).mono (by omega)⟩, has_putF q1 q2 HIV.out (by omega) HHH.out⟩); clear hm3)
                            | (go_at_call 15; refine (khe_get HX.out s2' (by omega) (by omega)).mono ?_; rintro e w4 ⟨B4, d4, rfl, hk4, hC4, hl4⟩; have HK4 := Lib.hid hk4; have HC4 := Lib.hid hC4; have HL4 := Lib.hid hl4; clear hk4 hC4 hl4)
                            | (go_at_call 17; refine (plain_c (Kd.C_below HY.out HK4.out.old) hc2 (by omega)).mono ?_; rintro e w5 ⟨B5, d5, rfl, hC5, hl5, hb5⟩; have HK5 := Lib.hid (HK4.out.below hb5); have HC45 := Lib.hid (Kd.C_below HC4.out hb5); have HC5 := Lib.hid hC5; have HL5 := Lib.hid hl5; clear hC5 hl5 hb5)
                            | (go_at_call 16; refine (same_c HC45.out HL4.out HC5.out HL5.out (by omega)).mono ?_; rintro e w6 ⟨rfl, hb6⟩; have HK6 := Lib.hid (HK5.out.below hb6); clear hb6))
                        go_roundw
                        case rel => exact ⟨k + 1, by omega, by go_num, HK6.out⟩
                        case measure => simp [intOf]; omega
                    · have h3b : (q0 == 3) = false := by simpa using h3
                      have HX : Hid (KhE w g n (l.length + 1 + (k + 1)) (hd + 1) ys (wr.alloc (.cells #[.int .i64 q0, .int .i64 q1, .slice B q2.length cB] 31))) := HNO.out _ ((Below.refl _ _).alloc (Nat.le_refl _) _)
                      go_wp2_with (first
                          | (go_at_call 15; refine (khe_get HX.out s2' (by omega) (by omega)).mono ?_; rintro e w4 ⟨B4, d4, rfl, hk4, hC4, hl4⟩; have HK4 := Lib.hid hk4; have HC4 := Lib.hid hC4; have HL4 := Lib.hid hl4; clear hk4 hC4 hl4)
                          | (go_at_call 17; refine (plain_c (Kd.C_below HY.out HK4.out.old) hc2 (by omega)).mono ?_; rintro e w5 ⟨B5, d5, rfl, hC5, hl5, hb5⟩; have HK5 := Lib.hid (HK4.out.below hb5); have HC45 := Lib.hid (Kd.C_below HC4.out hb5); have HC5 := Lib.hid hC5; have HL5 := Lib.hid hl5; clear hC5 hl5 hb5)
                          | (go_at_call 16; refine (same_c HC45.out HL4.out HC5.out HL5.out (by omega)).mono ?_; rintro e w6 ⟨rfl, hb6⟩; have HK6 := Lib.hid (HK5.out.below hb6); clear hb6))
                      go_roundw
                      case rel => exact ⟨k + 1, by omega, by go_num, HK6.out⟩
                      case measure => simp [intOf]; omega
              · have hold := hf.m.b
                have HB := Lib.hid hold
                clear hf hh hS hold
                go_wp2_with (go_at_call 9; refine (awake_true _).mono ?_; rintro e w7 ⟨rfl, hb7⟩)
                go_ret
                exact ⟨rfl, HB.out.trans (hb7.mono HB.out.size)⟩
end Go.Proofs.Ytpjgoiogpgggeaa
