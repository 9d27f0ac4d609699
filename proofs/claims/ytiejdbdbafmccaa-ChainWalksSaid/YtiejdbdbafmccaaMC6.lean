/- Lemmas: The reference's Do, walked: a place is freed. · The reference's Do, walked: the loss is told. · The reference's Do, walked: the loss's gradient is there. · The reference's Do, walked: a gradient is taken back. · The reference's Do, walked: a gradient is taken back. · The law's walk, in the print's form. Conditions: none beyond each lemma's own. -/
import Derived.Below
import Derived.Deep.Draws
import Derived.Deep.AppendLies
import Derived.Maps.AppendAt
import Derived.OwnWalk
import Derived.Laws.BytesArg
import Derived.Laws.MakeOwn
import Derived.Laws.OwnMore
import Derived.Deep.OwnRows
import Derived.Tactics
import Derived.Lib.ConvBytes
import Derived.Laws.Slices
import Derived.WalkKit
import Derived.KernelRfl
import Derived.RowKit3
import Derived.Deep.LoopGhost
import Derived.Deep.QuietTactic
import Derived.BigQuiet
import Derived.WideLaws
import Derived.Deep.DeepCutAuto
import Derived.Deep.CutBlock
import Derived.Deep.RegionHeld3
import Derived.Laws.Rows
import Derived.Lib.AppendStr
import Derived.ArgAppend
import Derived.Laws.IdiomCopy
import Derived.RowKit
import Derived.OrdersHeld
import Derived.Laws.BitsLemmas
import Derived.WalkSpells
import Derived.WalkLawsBesides
import Derived.Lib.Hide
import Derived.Deep.RegionLaw
import Derived.Laws.CopyOwn
import Derived.Laws.Externs
import Derived.Lib.Overlaps
import Derived.Lib.AppendZeros
import Derived.Deep.Slices
import Derived.Deep.Fields
import Derived.ChangeSame
import Derived.ProofKit
import Derived.Test.YtiejdbdbafmccaaProg
import Derived.DeepKeys4
import Derived.Maps.Keyed
import Derived.Lib.AppendZerosOnto
import Derived.Test.YtiejdbdbafmccaaMC5
set_option linter.unusedVariables false
set_option linter.unusedSimpArgs false
/- part ChRf3 -/
namespace Go.Proofs.Ytiejdbdbafmccaa
open Go.RowKit Go.Proofs.YtiejdbdbafmccaaW.PrintWords Go.Proofs.YtiejdbdbafmccaaW.PrintLast Go.Proofs.Ytiejdbdbafmccaa.PCh
set_option maxRecDepth 100000 in
set_option maxHeartbeats 8000000 in
theorem do_k3 {w : World} {A0 : Option Addr} {c0 : Nat} {A1 : Option Addr} {c1 : Nat} {ws cs : List Int} {cap : Int} {At : Option Addr} {ct : Nat} {As : Option Addr} {cs' : Nat} {Ag : Option Addr} {cg : Nat} {th sv gr : List Int} {em sd dn pk co : Int} {t : Nat} {x : Wk} (h : DoPre w A0 c0 A1 c1 ws cs cap At ct As cs' Ag cg th sv gr em sd dn pk co t x) (id : Nat) (hk : OkI cs.length 3 id) :
    Calls Try.prog 24 #[.slice A0 ws.length c0, .slice A1 cs.length c1, .int .i64 cap, .agg (scells At ct As cs' Ag cg th sv gr em sd dn pk co), .int .i64 3, .int .i64 (id : Int)] w (DoR w ws cs cap (t + 1) (doW x ws cs cap 3 id)) := by
  have ht := h.rt_
  have hlen := ht.len
  have hlo := ht.lo
  have hhi := ht.hi
  have hin := hk.idn
  have hi1 := hk.id0 (by decide) (by decide)
  have hcp := h.cp
  obtain ⟨b0, o0, e0, _, _⟩ := C_at h.r0 (by omega)
  obtain ⟨b1, o1, e1, _, _⟩ := C_at h.r1 (by omega)
  subst e0
  subst e1
  obtain ⟨W, hW⟩ : ∃ W, W = (w.alloc (.cells (scells At ct As cs' Ag cg th sv gr em sd dn pk co) 61)).alloc (.cells z8 61) := ⟨_, rfl⟩
  have hD := h.start hW
  obtain ⟨RD, hF⟩ := h.facts id (by omega)
  have HW := Lib.hid (show W = (w.alloc (.cells #[.slice At th.length ct, .slice As sv.length cs', .slice Ag gr.length cg, .int .i64 em, .int .i64 sd, .int .i64 dn, .int .i64 pk, .int .i64 co] 61)).alloc (.cells #[.slice none 0 0, .slice none 0 0, .slice none 0 0, .int .i64 0, .int .i64 0, .int .i64 0, .int .i64 0, .int .i64 0] 61) from hW)
  have HDW := Lib.hid hD
  have HDN : Hid (∀ (E : Int) (wr : World), doW x ws cs cap 3 id = (x, E) → E ≠ 0 → DI w b0 o0 b1 o1 ws cs At ct As cs' Ag cg th sv gr em sd dn pk co wr → _) := Lib.hid fun E wr hE h0 (hr : DI w b0 o0 b1 o1 ws cs At ct As cs' Ag cg th sv gr em sd dn pk co wr) => hr.done (cap := cap) (t := t + 1) (R := doW x ws cs cap 3 id) (E := E) (by rw [hE]) (fun hh => absurd (by rw [hE] at hh; exact hh) h0)
  have HRD := Lib.hid hF.rd
  have HTH : Hid (∀ wr, DI w b0 o0 b1 o1 ws cs At ct As cs' Ag cg th sv gr em sd dn pk co wr → Calls Try.prog 35 #[.slice At th.length ct, .int .i64 (id : Int)] wr fun e w' => e = .returned (.bool (x.th id)) ∧ Drawn0 wr w') := Lib.hid fun wr hr => by
    have q := (hF.has (id : Int) wr hr).1
    rw [show decide ((id : Int) ∈ th) = x.th id from h.rel.th.has id hi1 hin] at q
    exact q
  have sa := hF.sa
  have sb := hF.sb
  have sw := hF.sw
  have swd := hF.wd
  have hl3 := hF.l3
  have hpkw := h.rel.pkw
  have hpk : pk = x.pk := h.rel.pk
  have hmo : moreI ws cs.length 3 id = 0 := rfl
  cases hmy : x.th id with
  | false =>
    have hm : mayB x cs.length 3 id = false := hmy
    have HE := Lib.hid (show doW x ws cs cap 3 id = (x, 24) by unfold doW; rw [if_pos hm])
    rw [hmy] at HTH
    clear hmy hm hmo hF h hk ht hD hW hlen sw hpk
    by_cases hi : id = 1
    · have hib : ((id : Int) == 1) = true := by simp; omega
      clear hi
      go_enter Try.func24, Try.ntmps24
      simp only [scells]
      go_upto_region 2 with (fail)
      rw [← HW.out]
      have hD := HDW.out
      have k0 := hD.k0; have k1 := hD.k1; have k2 := hD.k2; have k3 := hD.k3; have k4 := hD.k4; have k5 := hD.k5; have k6 := hD.k6; have k7 := hD.k7; have z0 := hD.kz 0; have z1 := hD.kz 1; have z2 := hD.kz 2; have z3 := hD.kz 3; have z4 := hD.kz 4; have z5 := hD.kz 5; have z6 := hD.kz 6; have z7 := hD.kz 7; have r0 := hD.r0; have r1 := hD.r1; have r2 := hD.r2; have r3 := hD.r3; have r4 := hD.r4; have r5 := hD.r5; have r6 := hD.r6; have r7 := hD.r7; have y0 := hD.rz 0; have y1 := hD.rz 1; have y2 := hD.rz 2; have y3 := hD.rz 3; have y4 := hD.rz 4; have y5 := hD.rz 5; have y6 := hD.rz 6; have y7 := hD.rz 7; have HD := Lib.hid hD; clear hD
      go_wp2_with (go_at_call 35; first | ((with_reducible refine (HRD.out _ HD.out).mono ?_); (rintro e wn ⟨rfl, hdr⟩; have hD := HD.out.below hdr.below; clear k0 z0 r0 y0 k1 z1 r1 y1 k2 z2 r2 y2 k3 z3 r3 y3 k4 z4 r4 y4 k5 z5 r5 y5 k6 z6 r6 y6 k7 z7 r7 y7 HD; have k0 := hD.k0; have k1 := hD.k1; have k2 := hD.k2; have k3 := hD.k3; have k4 := hD.k4; have k5 := hD.k5; have k6 := hD.k6; have k7 := hD.k7; have z0 := hD.kz 0; have z1 := hD.kz 1; have z2 := hD.kz 2; have z3 := hD.kz 3; have z4 := hD.kz 4; have z5 := hD.kz 5; have z6 := hD.kz 6; have z7 := hD.kz 7; have r0 := hD.r0; have r1 := hD.r1; have r2 := hD.r2; have r3 := hD.r3; have r4 := hD.r4; have r5 := hD.r5; have r6 := hD.r6; have r7 := hD.r7; have y0 := hD.rz 0; have y1 := hD.rz 1; have y2 := hD.rz 2; have y3 := hD.rz 3; have y4 := hD.rz 4; have y5 := hD.rz 5; have y6 := hD.rz 6; have y7 := hD.rz 7; have HD := Lib.hid hD; clear hD; clear hdr)) | ((with_reducible refine (HTH.out _ HD.out).mono ?_); (rintro e wn ⟨rfl, hdr⟩; have hD := HD.out.below hdr.below; clear k0 z0 r0 y0 k1 z1 r1 y1 k2 z2 r2 y2 k3 z3 r3 y3 k4 z4 r4 y4 k5 z5 r5 y5 k6 z6 r6 y6 k7 z7 r7 y7 HD; have k0 := hD.k0; have k1 := hD.k1; have k2 := hD.k2; have k3 := hD.k3; have k4 := hD.k4; have k5 := hD.k5; have k6 := hD.k6; have k7 := hD.k7; have z0 := hD.kz 0; have z1 := hD.kz 1; have z2 := hD.kz 2; have z3 := hD.kz 3; have z4 := hD.kz 4; have z5 := hD.kz 5; have z6 := hD.kz 6; have z7 := hD.kz 7; have r0 := hD.r0; have r1 := hD.r1; have r2 := hD.r2; have r3 := hD.r3; have r4 := hD.r4; have r5 := hD.r5; have r6 := hD.r6; have r7 := hD.r7; have y0 := hD.rz 0; have y1 := hD.rz 1; have y2 := hD.rz 2; have y3 := hD.rz 3; have y4 := hD.rz 4; have y5 := hD.rz 5; have y6 := hD.rz 6; have y7 := hD.rz 7; have HD := Lib.hid hD; clear hD; clear hdr)))
      refine bodyPost_ret (v := .tuple #[.agg #[.slice At th.length ct, .slice As sv.length cs', .slice Ag gr.length cg, .int .i64 em, .int .i64 sd, .int .i64 dn, .int .i64 pk, .int .i64 co], .int .i64 24]) (by simp [results, Try.f24, go_sem, k0, k1, k2, k3, k4, k5, k6, k7, r0, r1, r2, r3, r4, r5, r6, r7, y0, y1, y2, y3, y4, y5, y6, y7]) rfl ?_
      exact HDN.out _ _ HE.out (by decide) (HD.out)
    · have hib : ((id : Int) == 1) = false := by simp; omega
      clear hi
      go_enter Try.func24, Try.ntmps24
      simp only [scells]
      go_upto_region 2 with (fail)
      rw [← HW.out]
      have hD := HDW.out
      have k0 := hD.k0; have k1 := hD.k1; have k2 := hD.k2; have k3 := hD.k3; have k4 := hD.k4; have k5 := hD.k5; have k6 := hD.k6; have k7 := hD.k7; have z0 := hD.kz 0; have z1 := hD.kz 1; have z2 := hD.kz 2; have z3 := hD.kz 3; have z4 := hD.kz 4; have z5 := hD.kz 5; have z6 := hD.kz 6; have z7 := hD.kz 7; have r0 := hD.r0; have r1 := hD.r1; have r2 := hD.r2; have r3 := hD.r3; have r4 := hD.r4; have r5 := hD.r5; have r6 := hD.r6; have r7 := hD.r7; have y0 := hD.rz 0; have y1 := hD.rz 1; have y2 := hD.rz 2; have y3 := hD.rz 3; have y4 := hD.rz 4; have y5 := hD.rz 5; have y6 := hD.rz 6; have y7 := hD.rz 7; have HD := Lib.hid hD; clear hD
      go_wp2_with (go_at_call 35; first | ((with_reducible refine (HRD.out _ HD.out).mono ?_); (rintro e wn ⟨rfl, hdr⟩; have hD := HD.out.below hdr.below; clear k0 z0 r0 y0 k1 z1 r1 y1 k2 z2 r2 y2 k3 z3 r3 y3 k4 z4 r4 y4 k5 z5 r5 y5 k6 z6 r6 y6 k7 z7 r7 y7 HD; have k0 := hD.k0; have k1 := hD.k1; have k2 := hD.k2; have k3 := hD.k3; have k4 := hD.k4; have k5 := hD.k5; have k6 := hD.k6; have k7 := hD.k7; have z0 := hD.kz 0; have z1 := hD.kz 1; have z2 := hD.kz 2; have z3 := hD.kz 3; have z4 := hD.kz 4; have z5 := hD.kz 5; have z6 := hD.kz 6; have z7 := hD.kz 7; have r0 := hD.r0; have r1 := hD.r1; have r2 := hD.r2; have r3 := hD.r3; have r4 := hD.r4; have r5 := hD.r5; have r6 := hD.r6; have r7 := hD.r7; have y0 := hD.rz 0; have y1 := hD.rz 1; have y2 := hD.rz 2; have y3 := hD.rz 3; have y4 := hD.rz 4; have y5 := hD.rz 5; have y6 := hD.rz 6; have y7 := hD.rz 7; have HD := Lib.hid hD; clear hD; clear hdr)) | ((with_reducible refine (HTH.out _ HD.out).mono ?_); (rintro e wn ⟨rfl, hdr⟩; have hD := HD.out.below hdr.below; clear k0 z0 r0 y0 k1 z1 r1 y1 k2 z2 r2 y2 k3 z3 r3 y3 k4 z4 r4 y4 k5 z5 r5 y5 k6 z6 r6 y6 k7 z7 r7 y7 HD; have k0 := hD.k0; have k1 := hD.k1; have k2 := hD.k2; have k3 := hD.k3; have k4 := hD.k4; have k5 := hD.k5; have k6 := hD.k6; have k7 := hD.k7; have z0 := hD.kz 0; have z1 := hD.kz 1; have z2 := hD.kz 2; have z3 := hD.kz 3; have z4 := hD.kz 4; have z5 := hD.kz 5; have z6 := hD.kz 6; have z7 := hD.kz 7; have r0 := hD.r0; have r1 := hD.r1; have r2 := hD.r2; have r3 := hD.r3; have r4 := hD.r4; have r5 := hD.r5; have r6 := hD.r6; have r7 := hD.r7; have y0 := hD.rz 0; have y1 := hD.rz 1; have y2 := hD.rz 2; have y3 := hD.rz 3; have y4 := hD.rz 4; have y5 := hD.rz 5; have y6 := hD.rz 6; have y7 := hD.rz 7; have HD := Lib.hid hD; clear hD; clear hdr)))
      refine bodyPost_ret (v := .tuple #[.agg #[.slice At th.length ct, .slice As sv.length cs', .slice Ag gr.length cg, .int .i64 em, .int .i64 sd, .int .i64 dn, .int .i64 pk, .int .i64 co], .int .i64 24]) (by simp [results, Try.f24, go_sem, k0, k1, k2, k3, k4, k5, k6, k7, r0, r1, r2, r3, r4, r5, r6, r7, y0, y1, y2, y3, y4, y5, y6, y7]) rfl ?_
      exact HDN.out _ _ HE.out (by decide) (HD.out)
  | true =>
    have hm : mayB x cs.length 3 id = true := hmy
    have hcap := h.rel.cap_th id hi1 hin hmy
    have HE := Lib.hid (show doW x ws cs cap 3 id = (effW (addW x 0) ws cs 3 id, 0) by unfold doW; rw [if_neg (by rw [hm]; decide), hmo, if_neg (by omega)])
    have hrel := h.rel.free ht id hi1 hin hmy
    obtain ⟨th2, hth2⟩ : ∃ l, l = wo th (id : Int) := ⟨_, rfl⟩
    simp only at hrel
    rw [← hth2] at hrel
    have HREL := Lib.hid hrel
    have hsum : sumL ws th2 = sumL ws th - ws.getD id 0 := by
      rw [hth2, sum_wo ws _ th h.rel.thn ((h.rel.th (id : Int)).2 ⟨by omega, by omega, by rw [Int.toNat_natCast]; exact hmy⟩), Int.toNat_natCast]
    have hx := ws_bd ht id
    have hlt2 := HREL.out.lt
    simp only at hlt2
    have htt := h.tt
    have HS2 : Hid (∀ A2 c2 wr, DI w b0 o0 b1 o1 ws cs A2 c2 As cs' Ag cg th2 sv gr em sd dn pk co wr → _) := Lib.hid fun A2 c2 wr (hr : DI w b0 o0 b1 o1 ws cs A2 c2 As cs' Ag cg th2 sv gr em sd dn pk co wr) => h.sum hr (by omega) (fun i hi => by have := (HREL.out.th i).1 hi; omega) (fun i hi => by have := (h.rel.gr i).1 hi; omega)
    have hle : sumL ws th2 + sumL ws gr ≤ pk := by rw [hsum, hpk]; omega
    have sc := (sumL_bd ht th2).1
    have hs3 : sumL ws th2 ≤ sumL ws th := by rw [hsum]; omega
    have HW1 : Hid (∀ wr, DI w b0 o0 b1 o1 ws cs At ct As cs' Ag cg th sv gr em sd dn pk co wr → Calls Try.prog 38 #[.slice At th.length ct, .int .i64 (id : Int)] wr (NewR w b0 o0 b1 o1 ws cs At ct As cs' Ag cg th sv gr em sd dn pk co th2)) := Lib.hid fun wr hr => by rw [hth2]; exact hr.withoutC _ hr.rt hr.lt (by omega)
    rw [hmy] at HTH
    have s0 : sumL ws th + sumL ws gr ≤ 26214400000 := by omega
    clear hmy hm hmo hF h hk ht hD hW hlen hsum hth2 hrel hpk hpkw sw swd hcap HDN
    generalize sumL ws th = SA at *
    generalize sumL ws th2 = SC at *
    generalize sumL ws gr = SB at *
    have hpb : decide (pk < SC + SB) = false := decide_eq_false (by omega)
    by_cases hi : id = 1
    · have hib : ((id : Int) == 1) = true := by simp; omega
      clear hi
      go_enter Try.func24, Try.ntmps24
      simp only [scells]
      go_upto_region 2 with (fail)
      rw [← HW.out]
      have hD := HDW.out
      have k0 := hD.k0; have k1 := hD.k1; have k2 := hD.k2; have k3 := hD.k3; have k4 := hD.k4; have k5 := hD.k5; have k6 := hD.k6; have k7 := hD.k7; have z0 := hD.kz 0; have z1 := hD.kz 1; have z2 := hD.kz 2; have z3 := hD.kz 3; have z4 := hD.kz 4; have z5 := hD.kz 5; have z6 := hD.kz 6; have z7 := hD.kz 7; have r0 := hD.r0; have r1 := hD.r1; have r2 := hD.r2; have r3 := hD.r3; have r4 := hD.r4; have r5 := hD.r5; have r6 := hD.r6; have r7 := hD.r7; have y0 := hD.rz 0; have y1 := hD.rz 1; have y2 := hD.rz 2; have y3 := hD.rz 3; have y4 := hD.rz 4; have y5 := hD.rz 5; have y6 := hD.rz 6; have y7 := hD.rz 7; have HD := Lib.hid hD; clear hD
      go_wp2_with (go_at_call 35; first | ((with_reducible refine (HRD.out _ HD.out).mono ?_); (rintro e wn ⟨rfl, hdr⟩; have hD := HD.out.below hdr.below; clear k0 z0 r0 y0 k1 z1 r1 y1 k2 z2 r2 y2 k3 z3 r3 y3 k4 z4 r4 y4 k5 z5 r5 y5 k6 z6 r6 y6 k7 z7 r7 y7 HD; have k0 := hD.k0; have k1 := hD.k1; have k2 := hD.k2; have k3 := hD.k3; have k4 := hD.k4; have k5 := hD.k5; have k6 := hD.k6; have k7 := hD.k7; have z0 := hD.kz 0; have z1 := hD.kz 1; have z2 := hD.kz 2; have z3 := hD.kz 3; have z4 := hD.kz 4; have z5 := hD.kz 5; have z6 := hD.kz 6; have z7 := hD.kz 7; have r0 := hD.r0; have r1 := hD.r1; have r2 := hD.r2; have r3 := hD.r3; have r4 := hD.r4; have r5 := hD.r5; have r6 := hD.r6; have r7 := hD.r7; have y0 := hD.rz 0; have y1 := hD.rz 1; have y2 := hD.rz 2; have y3 := hD.rz 3; have y4 := hD.rz 4; have y5 := hD.rz 5; have y6 := hD.rz 6; have y7 := hD.rz 7; have HD := Lib.hid hD; clear hD; clear hdr)) | ((with_reducible refine (HTH.out _ HD.out).mono ?_); (rintro e wn ⟨rfl, hdr⟩; have hD := HD.out.below hdr.below; clear k0 z0 r0 y0 k1 z1 r1 y1 k2 z2 r2 y2 k3 z3 r3 y3 k4 z4 r4 y4 k5 z5 r5 y5 k6 z6 r6 y6 k7 z7 r7 y7 HD; have k0 := hD.k0; have k1 := hD.k1; have k2 := hD.k2; have k3 := hD.k3; have k4 := hD.k4; have k5 := hD.k5; have k6 := hD.k6; have k7 := hD.k7; have z0 := hD.kz 0; have z1 := hD.kz 1; have z2 := hD.kz 2; have z3 := hD.kz 3; have z4 := hD.kz 4; have z5 := hD.kz 5; have z6 := hD.kz 6; have z7 := hD.kz 7; have r0 := hD.r0; have r1 := hD.r1; have r2 := hD.r2; have r3 := hD.r3; have r4 := hD.r4; have r5 := hD.r5; have r6 := hD.r6; have r7 := hD.r7; have y0 := hD.rz 0; have y1 := hD.rz 1; have y2 := hD.rz 2; have y3 := hD.rz 3; have y4 := hD.rz 4; have y5 := hD.rz 5; have y6 := hD.rz 6; have y7 := hD.rz 7; have HD := Lib.hid hD; clear hD; clear hdr)))
      refine (HW1.out _ HD.out).mono ?_
      rintro e wn ⟨A2, c2, rfl, hl2, hr2, hD⟩
      have HL2 := Lib.hid hl2
      have HR2 := Lib.hid hr2
      clear hl2 hr2
      clear k0 z0 r0 y0 k1 z1 r1 y1 k2 z2 r2 y2 k3 z3 r3 y3 k4 z4 r4 y4 k5 z5 r5 y5 k6 z6 r6 y6 k7 z7 r7 y7 HD
      have k0 := hD.k0; have k1 := hD.k1; have k2 := hD.k2; have k3 := hD.k3; have k4 := hD.k4; have k5 := hD.k5; have k6 := hD.k6; have k7 := hD.k7; have z0 := hD.kz 0; have z1 := hD.kz 1; have z2 := hD.kz 2; have z3 := hD.kz 3; have z4 := hD.kz 4; have z5 := hD.kz 5; have z6 := hD.kz 6; have z7 := hD.kz 7; have r0 := hD.r0; have r1 := hD.r1; have r2 := hD.r2; have r3 := hD.r3; have r4 := hD.r4; have r5 := hD.r5; have r6 := hD.r6; have r7 := hD.r7; have y0 := hD.rz 0; have y1 := hD.rz 1; have y2 := hD.rz 2; have y3 := hD.rz 3; have y4 := hD.rz 4; have y5 := hD.rz 5; have y6 := hD.rz 6; have y7 := hD.rz 7; have HD := Lib.hid hD; clear hD
      go_wp2_with fail
      have hD := HD.out.th_ HR2.out HL2.out
      obtain ⟨wq, hq⟩ : ∃ wq, wq = wn.setCell ⟨w.heap.size, 0, none⟩ (.slice A2 th2.length c2) := ⟨_, rfl⟩
      rw [← hq] at hD ⊢
      clear hq HR2 HL2
      clear k0 z0 r0 y0 k1 z1 r1 y1 k2 z2 r2 y2 k3 z3 r3 y3 k4 z4 r4 y4 k5 z5 r5 y5 k6 z6 r6 y6 k7 z7 r7 y7 HD
      have k0 := hD.k0; have k1 := hD.k1; have k2 := hD.k2; have k3 := hD.k3; have k4 := hD.k4; have k5 := hD.k5; have k6 := hD.k6; have k7 := hD.k7; have z0 := hD.kz 0; have z1 := hD.kz 1; have z2 := hD.kz 2; have z3 := hD.kz 3; have z4 := hD.kz 4; have z5 := hD.kz 5; have z6 := hD.kz 6; have z7 := hD.kz 7; have r0 := hD.r0; have r1 := hD.r1; have r2 := hD.r2; have r3 := hD.r3; have r4 := hD.r4; have r5 := hD.r5; have r6 := hD.r6; have r7 := hD.r7; have y0 := hD.rz 0; have y1 := hD.rz 1; have y2 := hD.rz 2; have y3 := hD.rz 3; have y4 := hD.rz 4; have y5 := hD.rz 5; have y6 := hD.rz 6; have y7 := hD.rz 7; have HD := Lib.hid hD; clear hD
      have wC : IntKind.i64.wrap (SC + SB) = SC + SB := IntWalk.i64_in _ (by omega)
      go_quiet ((go_at_call 36; first | (with_reducible exact q1_ (fun j => (HS2.out _ _ _ (HD.out.drewN j)).1)) | (with_reducible exact q1_ (fun j => (HS2.out _ _ _ (HD.out.drewN j)).2))))
      clear wC hpb
      have hD := HD.out.drewN nq
      obtain ⟨wn, hq⟩ : ∃ wn, wn = wq.drewN nq := ⟨_, rfl⟩
      rw [← hq] at hD ⊢
      clear hq
      clear k0 z0 r0 y0 k1 z1 r1 y1 k2 z2 r2 y2 k3 z3 r3 y3 k4 z4 r4 y4 k5 z5 r5 y5 k6 z6 r6 y6 k7 z7 r7 y7 HD
      have k0 := hD.k0; have k1 := hD.k1; have k2 := hD.k2; have k3 := hD.k3; have k4 := hD.k4; have k5 := hD.k5; have k6 := hD.k6; have k7 := hD.k7; have z0 := hD.kz 0; have z1 := hD.kz 1; have z2 := hD.kz 2; have z3 := hD.kz 3; have z4 := hD.kz 4; have z5 := hD.kz 5; have z6 := hD.kz 6; have z7 := hD.kz 7; have r0 := hD.r0; have r1 := hD.r1; have r2 := hD.r2; have r3 := hD.r3; have r4 := hD.r4; have r5 := hD.r5; have r6 := hD.r6; have r7 := hD.r7; have y0 := hD.rz 0; have y1 := hD.rz 1; have y2 := hD.rz 2; have y3 := hD.rz 3; have y4 := hD.rz 4; have y5 := hD.rz 5; have y6 := hD.rz 6; have y7 := hD.rz 7; have HD := Lib.hid hD; clear hD
      go_wp2_with fail
      refine bodyPost_ret (v := .tuple #[.agg #[.slice A2 th2.length c2, .slice As sv.length cs', .slice Ag gr.length cg, .int .i64 em, .int .i64 sd, .int .i64 dn, .int .i64 pk, .int .i64 co], .int .i64 0]) (by simp [results, Try.f24, go_sem, k0, k1, k2, k3, k4, k5, k6, k7, r0, r1, r2, r3, r4, r5, r6, r7, y0, y1, y2, y3, y4, y5, y6, y7]) rfl ?_
      exact HD.out.done (by rw [HE.out]) (fun _ => by rw [HE.out]; exact HREL.out)
    · have hib : ((id : Int) == 1) = false := by simp; omega
      clear hi
      go_enter Try.func24, Try.ntmps24
      simp only [scells]
      go_upto_region 2 with (fail)
      rw [← HW.out]
      have hD := HDW.out
      have k0 := hD.k0; have k1 := hD.k1; have k2 := hD.k2; have k3 := hD.k3; have k4 := hD.k4; have k5 := hD.k5; have k6 := hD.k6; have k7 := hD.k7; have z0 := hD.kz 0; have z1 := hD.kz 1; have z2 := hD.kz 2; have z3 := hD.kz 3; have z4 := hD.kz 4; have z5 := hD.kz 5; have z6 := hD.kz 6; have z7 := hD.kz 7; have r0 := hD.r0; have r1 := hD.r1; have r2 := hD.r2; have r3 := hD.r3; have r4 := hD.r4; have r5 := hD.r5; have r6 := hD.r6; have r7 := hD.r7; have y0 := hD.rz 0; have y1 := hD.rz 1; have y2 := hD.rz 2; have y3 := hD.rz 3; have y4 := hD.rz 4; have y5 := hD.rz 5; have y6 := hD.rz 6; have y7 := hD.rz 7; have HD := Lib.hid hD; clear hD
      go_wp2_with (go_at_call 35; first | ((with_reducible refine (HRD.out _ HD.out).mono ?_); (rintro e wn ⟨rfl, hdr⟩; have hD := HD.out.below hdr.below; clear k0 z0 r0 y0 k1 z1 r1 y1 k2 z2 r2 y2 k3 z3 r3 y3 k4 z4 r4 y4 k5 z5 r5 y5 k6 z6 r6 y6 k7 z7 r7 y7 HD; have k0 := hD.k0; have k1 := hD.k1; have k2 := hD.k2; have k3 := hD.k3; have k4 := hD.k4; have k5 := hD.k5; have k6 := hD.k6; have k7 := hD.k7; have z0 := hD.kz 0; have z1 := hD.kz 1; have z2 := hD.kz 2; have z3 := hD.kz 3; have z4 := hD.kz 4; have z5 := hD.kz 5; have z6 := hD.kz 6; have z7 := hD.kz 7; have r0 := hD.r0; have r1 := hD.r1; have r2 := hD.r2; have r3 := hD.r3; have r4 := hD.r4; have r5 := hD.r5; have r6 := hD.r6; have r7 := hD.r7; have y0 := hD.rz 0; have y1 := hD.rz 1; have y2 := hD.rz 2; have y3 := hD.rz 3; have y4 := hD.rz 4; have y5 := hD.rz 5; have y6 := hD.rz 6; have y7 := hD.rz 7; have HD := Lib.hid hD; clear hD; clear hdr)) | ((with_reducible refine (HTH.out _ HD.out).mono ?_); (rintro e wn ⟨rfl, hdr⟩; have hD := HD.out.below hdr.below; clear k0 z0 r0 y0 k1 z1 r1 y1 k2 z2 r2 y2 k3 z3 r3 y3 k4 z4 r4 y4 k5 z5 r5 y5 k6 z6 r6 y6 k7 z7 r7 y7 HD; have k0 := hD.k0; have k1 := hD.k1; have k2 := hD.k2; have k3 := hD.k3; have k4 := hD.k4; have k5 := hD.k5; have k6 := hD.k6; have k7 := hD.k7; have z0 := hD.kz 0; have z1 := hD.kz 1; have z2 := hD.kz 2; have z3 := hD.kz 3; have z4 := hD.kz 4; have z5 := hD.kz 5; have z6 := hD.kz 6; have z7 := hD.kz 7; have r0 := hD.r0; have r1 := hD.r1; have r2 := hD.r2; have r3 := hD.r3; have r4 := hD.r4; have r5 := hD.r5; have r6 := hD.r6; have r7 := hD.r7; have y0 := hD.rz 0; have y1 := hD.rz 1; have y2 := hD.rz 2; have y3 := hD.rz 3; have y4 := hD.rz 4; have y5 := hD.rz 5; have y6 := hD.rz 6; have y7 := hD.rz 7; have HD := Lib.hid hD; clear hD; clear hdr)))
      refine (HW1.out _ HD.out).mono ?_
      rintro e wn ⟨A2, c2, rfl, hl2, hr2, hD⟩
      have HL2 := Lib.hid hl2
      have HR2 := Lib.hid hr2
      clear hl2 hr2
      clear k0 z0 r0 y0 k1 z1 r1 y1 k2 z2 r2 y2 k3 z3 r3 y3 k4 z4 r4 y4 k5 z5 r5 y5 k6 z6 r6 y6 k7 z7 r7 y7 HD
      have k0 := hD.k0; have k1 := hD.k1; have k2 := hD.k2; have k3 := hD.k3; have k4 := hD.k4; have k5 := hD.k5; have k6 := hD.k6; have k7 := hD.k7; have z0 := hD.kz 0; have z1 := hD.kz 1; have z2 := hD.kz 2; have z3 := hD.kz 3; have z4 := hD.kz 4; have z5 := hD.kz 5; have z6 := hD.kz 6; have z7 := hD.kz 7; have r0 := hD.r0; have r1 := hD.r1; have r2 := hD.r2; have r3 := hD.r3; have r4 := hD.r4; have r5 := hD.r5; have r6 := hD.r6; have r7 := hD.r7; have y0 := hD.rz 0; have y1 := hD.rz 1; have y2 := hD.rz 2; have y3 := hD.rz 3; have y4 := hD.rz 4; have y5 := hD.rz 5; have y6 := hD.rz 6; have y7 := hD.rz 7; have HD := Lib.hid hD; clear hD
      go_wp2_with fail
      have hD := HD.out.th_ HR2.out HL2.out
      obtain ⟨wq, hq⟩ : ∃ wq, wq = wn.setCell ⟨w.heap.size, 0, none⟩ (.slice A2 th2.length c2) := ⟨_, rfl⟩
      rw [← hq] at hD ⊢
      clear hq HR2 HL2
      clear k0 z0 r0 y0 k1 z1 r1 y1 k2 z2 r2 y2 k3 z3 r3 y3 k4 z4 r4 y4 k5 z5 r5 y5 k6 z6 r6 y6 k7 z7 r7 y7 HD
      have k0 := hD.k0; have k1 := hD.k1; have k2 := hD.k2; have k3 := hD.k3; have k4 := hD.k4; have k5 := hD.k5; have k6 := hD.k6; have k7 := hD.k7; have z0 := hD.kz 0; have z1 := hD.kz 1; have z2 := hD.kz 2; have z3 := hD.kz 3; have z4 := hD.kz 4; have z5 := hD.kz 5; have z6 := hD.kz 6; have z7 := hD.kz 7; have r0 := hD.r0; have r1 := hD.r1; have r2 := hD.r2; have r3 := hD.r3; have r4 := hD.r4; have r5 := hD.r5; have r6 := hD.r6; have r7 := hD.r7; have y0 := hD.rz 0; have y1 := hD.rz 1; have y2 := hD.rz 2; have y3 := hD.rz 3; have y4 := hD.rz 4; have y5 := hD.rz 5; have y6 := hD.rz 6; have y7 := hD.rz 7; have HD := Lib.hid hD; clear hD
      have wC : IntKind.i64.wrap (SC + SB) = SC + SB := IntWalk.i64_in _ (by omega)
      go_quiet ((go_at_call 36; first | (with_reducible exact q1_ (fun j => (HS2.out _ _ _ (HD.out.drewN j)).1)) | (with_reducible exact q1_ (fun j => (HS2.out _ _ _ (HD.out.drewN j)).2))))
      clear wC hpb
      have hD := HD.out.drewN nq
      obtain ⟨wn, hq⟩ : ∃ wn, wn = wq.drewN nq := ⟨_, rfl⟩
      rw [← hq] at hD ⊢
      clear hq
      clear k0 z0 r0 y0 k1 z1 r1 y1 k2 z2 r2 y2 k3 z3 r3 y3 k4 z4 r4 y4 k5 z5 r5 y5 k6 z6 r6 y6 k7 z7 r7 y7 HD
      have k0 := hD.k0; have k1 := hD.k1; have k2 := hD.k2; have k3 := hD.k3; have k4 := hD.k4; have k5 := hD.k5; have k6 := hD.k6; have k7 := hD.k7; have z0 := hD.kz 0; have z1 := hD.kz 1; have z2 := hD.kz 2; have z3 := hD.kz 3; have z4 := hD.kz 4; have z5 := hD.kz 5; have z6 := hD.kz 6; have z7 := hD.kz 7; have r0 := hD.r0; have r1 := hD.r1; have r2 := hD.r2; have r3 := hD.r3; have r4 := hD.r4; have r5 := hD.r5; have r6 := hD.r6; have r7 := hD.r7; have y0 := hD.rz 0; have y1 := hD.rz 1; have y2 := hD.rz 2; have y3 := hD.rz 3; have y4 := hD.rz 4; have y5 := hD.rz 5; have y6 := hD.rz 6; have y7 := hD.rz 7; have HD := Lib.hid hD; clear hD
      go_wp2_with fail
      refine bodyPost_ret (v := .tuple #[.agg #[.slice A2 th2.length c2, .slice As sv.length cs', .slice Ag gr.length cg, .int .i64 em, .int .i64 sd, .int .i64 dn, .int .i64 pk, .int .i64 co], .int .i64 0]) (by simp [results, Try.f24, go_sem, k0, k1, k2, k3, k4, k5, k6, k7, r0, r1, r2, r3, r4, r5, r6, r7, y0, y1, y2, y3, y4, y5, y6, y7]) rfl ?_
      exact HD.out.done (by rw [HE.out]) (fun _ => by rw [HE.out]; exact HREL.out)
end Go.Proofs.Ytiejdbdbafmccaa
/- part ChRf4 -/
namespace Go.Proofs.Ytiejdbdbafmccaa
open Go.RowKit Go.Proofs.YtiejdbdbafmccaaW.PrintWords Go.Proofs.YtiejdbdbafmccaaW.PrintLast Go.Proofs.Ytiejdbdbafmccaa.PCh
set_option maxRecDepth 100000 in
set_option maxHeartbeats 8000000 in
theorem do_k4 {w : World} {A0 : Option Addr} {c0 : Nat} {A1 : Option Addr} {c1 : Nat} {ws cs : List Int} {cap : Int} {At : Option Addr} {ct : Nat} {As : Option Addr} {cs' : Nat} {Ag : Option Addr} {cg : Nat} {th sv gr : List Int} {em sd dn pk co : Int} {t : Nat} {x : Wk} (h : DoPre w A0 c0 A1 c1 ws cs cap At ct As cs' Ag cg th sv gr em sd dn pk co t x) :
    Calls Try.prog 24 #[.slice A0 ws.length c0, .slice A1 cs.length c1, .int .i64 cap, .agg (scells At ct As cs' Ag cg th sv gr em sd dn pk co), .int .i64 4, .int .i64 0] w (DoR w ws cs cap (t + 1) (doW x ws cs cap 4 0)) := by
  have ht := h.rt_
  have hlen := ht.len
  have hlo := ht.lo
  have hhi := ht.hi
  have hcp := h.cp
  obtain ⟨b0, o0, e0, _, _⟩ := C_at h.r0 (by omega)
  obtain ⟨b1, o1, e1, _, _⟩ := C_at h.r1 (by omega)
  subst e0
  subst e1
  obtain ⟨W, hW⟩ : ∃ W, W = (w.alloc (.cells (scells At ct As cs' Ag cg th sv gr em sd dn pk co) 61)).alloc (.cells z8 61) := ⟨_, rfl⟩
  have hD := h.start hW
  obtain ⟨RD, hF⟩ := h.facts 0 (by omega)
  have HW := Lib.hid (show W = (w.alloc (.cells #[.slice At th.length ct, .slice As sv.length cs', .slice Ag gr.length cg, .int .i64 em, .int .i64 sd, .int .i64 dn, .int .i64 pk, .int .i64 co] 61)).alloc (.cells #[.slice none 0 0, .slice none 0 0, .slice none 0 0, .int .i64 0, .int .i64 0, .int .i64 0, .int .i64 0, .int .i64 0] 61) from hW)
  have HDW := Lib.hid hD
  have HDN : Hid (∀ (E : Int) (wr : World), doW x ws cs cap 4 0 = (x, E) → E ≠ 0 → DI w b0 o0 b1 o1 ws cs At ct As cs' Ag cg th sv gr em sd dn pk co wr → _) := Lib.hid fun E wr hE h0 (hr : DI w b0 o0 b1 o1 ws cs At ct As cs' Ag cg th sv gr em sd dn pk co wr) => hr.done (cap := cap) (t := t + 1) (R := doW x ws cs cap 4 0) (E := E) (by rw [hE]) (fun hh => absurd (by rw [hE] at hh; exact hh) h0)
  have HRD : Hid (∀ wr, DI w b0 o0 b1 o1 ws cs At ct As cs' Ag cg th sv gr em sd dn pk co wr → Calls Try.prog 35 #[.slice At th.length ct, .int .i64 (-1)] wr fun e w' => e = .returned (.bool (decide ((-1 : Int) ∈ th))) ∧ Drawn0 wr w') := Lib.hid fun wr hr => (hF.has (-1) wr hr).1
  have HTH : Hid (∀ wr, DI w b0 o0 b1 o1 ws cs At ct As cs' Ag cg th sv gr em sd dn pk co wr → Calls Try.prog 35 #[.slice At th.length ct, .int .i64 (cs.length : Int)] wr fun e w' => e = .returned (.bool (x.th cs.length)) ∧ Drawn0 wr w') := Lib.hid fun wr hr => by
    have q := (hF.has (cs.length : Int) wr hr).1
    rw [show decide ((cs.length : Int) ∈ th) = x.th cs.length from h.rel.th.has cs.length hlo (Nat.le_refl _)] at q
    exact q
  have sa := hF.sa
  have sb := hF.sb
  have sw := hF.sw
  have swd := hF.wd
  have hl3 := hF.l3
  have hpkw := h.rel.pkw
  have hpk : pk = x.pk := h.rel.pk
  have hem : em = flag x.em := h.rel.em
  have hmo : moreI ws cs.length 4 0 = 0 := rfl
  have hmb : mayB x cs.length 4 0 = (x.th cs.length && !x.em) := rfl
  generalize decide ((-1 : Int) ∈ th) = RB at *
  cases hex : x.em with
  | true =>
    have HE := Lib.hid (show doW x ws cs cap 4 0 = (x, 24) by unfold doW; rw [if_pos (by rw [hmb, hex]; simp)])
    rw [hex] at hem
    obtain rfl : em = 1 := hem
    clear hex hmo hmb hF h ht hD hW hlen sw hpk HTH
    go_enter Try.func24, Try.ntmps24
    simp only [scells]
    go_upto_region 2 with (fail)
    rw [← HW.out]
    have hD := HDW.out
    have k0 := hD.k0; have k1 := hD.k1; have k2 := hD.k2; have k3 := hD.k3; have k4 := hD.k4; have k5 := hD.k5; have k6 := hD.k6; have k7 := hD.k7; have z0 := hD.kz 0; have z1 := hD.kz 1; have z2 := hD.kz 2; have z3 := hD.kz 3; have z4 := hD.kz 4; have z5 := hD.kz 5; have z6 := hD.kz 6; have z7 := hD.kz 7; have r0 := hD.r0; have r1 := hD.r1; have r2 := hD.r2; have r3 := hD.r3; have r4 := hD.r4; have r5 := hD.r5; have r6 := hD.r6; have r7 := hD.r7; have y0 := hD.rz 0; have y1 := hD.rz 1; have y2 := hD.rz 2; have y3 := hD.rz 3; have y4 := hD.rz 4; have y5 := hD.rz 5; have y6 := hD.rz 6; have y7 := hD.rz 7; have HD := Lib.hid hD; clear hD
    go_wp2_with (go_at_call 35; first | ((with_reducible refine (HRD.out _ HD.out).mono ?_); (rintro e wn ⟨rfl, hdr⟩; have hD := HD.out.below hdr.below; clear k0 z0 r0 y0 k1 z1 r1 y1 k2 z2 r2 y2 k3 z3 r3 y3 k4 z4 r4 y4 k5 z5 r5 y5 k6 z6 r6 y6 k7 z7 r7 y7 HD; have k0 := hD.k0; have k1 := hD.k1; have k2 := hD.k2; have k3 := hD.k3; have k4 := hD.k4; have k5 := hD.k5; have k6 := hD.k6; have k7 := hD.k7; have z0 := hD.kz 0; have z1 := hD.kz 1; have z2 := hD.kz 2; have z3 := hD.kz 3; have z4 := hD.kz 4; have z5 := hD.kz 5; have z6 := hD.kz 6; have z7 := hD.kz 7; have r0 := hD.r0; have r1 := hD.r1; have r2 := hD.r2; have r3 := hD.r3; have r4 := hD.r4; have r5 := hD.r5; have r6 := hD.r6; have r7 := hD.r7; have y0 := hD.rz 0; have y1 := hD.rz 1; have y2 := hD.rz 2; have y3 := hD.rz 3; have y4 := hD.rz 4; have y5 := hD.rz 5; have y6 := hD.rz 6; have y7 := hD.rz 7; have HD := Lib.hid hD; clear hD; clear hdr)))
    refine bodyPost_ret (v := .tuple #[.agg #[.slice At th.length ct, .slice As sv.length cs', .slice Ag gr.length cg, .int .i64 1, .int .i64 sd, .int .i64 dn, .int .i64 pk, .int .i64 co], .int .i64 24]) (by simp [results, Try.f24, go_sem, k0, k1, k2, k3, k4, k5, k6, k7, r0, r1, r2, r3, r4, r5, r6, r7, y0, y1, y2, y3, y4, y5, y6, y7]) rfl ?_
    exact HDN.out _ _ HE.out (by decide) (HD.out)
  | false =>
    rw [hex] at hem
    obtain rfl : em = 0 := hem
    cases hmy : x.th cs.length with
    | false =>
      have HE := Lib.hid (show doW x ws cs cap 4 0 = (x, 24) by unfold doW; rw [if_pos (by rw [hmb, hmy]; rfl)])
      rw [hmy] at HTH
      clear hex hmy hmo hmb hF h ht hD hW hlen sw hpk
      go_enter Try.func24, Try.ntmps24
      simp only [scells]
      go_upto_region 2 with (fail)
      rw [← HW.out]
      have hD := HDW.out
      have k0 := hD.k0; have k1 := hD.k1; have k2 := hD.k2; have k3 := hD.k3; have k4 := hD.k4; have k5 := hD.k5; have k6 := hD.k6; have k7 := hD.k7; have z0 := hD.kz 0; have z1 := hD.kz 1; have z2 := hD.kz 2; have z3 := hD.kz 3; have z4 := hD.kz 4; have z5 := hD.kz 5; have z6 := hD.kz 6; have z7 := hD.kz 7; have r0 := hD.r0; have r1 := hD.r1; have r2 := hD.r2; have r3 := hD.r3; have r4 := hD.r4; have r5 := hD.r5; have r6 := hD.r6; have r7 := hD.r7; have y0 := hD.rz 0; have y1 := hD.rz 1; have y2 := hD.rz 2; have y3 := hD.rz 3; have y4 := hD.rz 4; have y5 := hD.rz 5; have y6 := hD.rz 6; have y7 := hD.rz 7; have HD := Lib.hid hD; clear hD
      go_wp2_with (go_at_call 35; first | ((with_reducible refine (HRD.out _ HD.out).mono ?_); (rintro e wn ⟨rfl, hdr⟩; have hD := HD.out.below hdr.below; clear k0 z0 r0 y0 k1 z1 r1 y1 k2 z2 r2 y2 k3 z3 r3 y3 k4 z4 r4 y4 k5 z5 r5 y5 k6 z6 r6 y6 k7 z7 r7 y7 HD; have k0 := hD.k0; have k1 := hD.k1; have k2 := hD.k2; have k3 := hD.k3; have k4 := hD.k4; have k5 := hD.k5; have k6 := hD.k6; have k7 := hD.k7; have z0 := hD.kz 0; have z1 := hD.kz 1; have z2 := hD.kz 2; have z3 := hD.kz 3; have z4 := hD.kz 4; have z5 := hD.kz 5; have z6 := hD.kz 6; have z7 := hD.kz 7; have r0 := hD.r0; have r1 := hD.r1; have r2 := hD.r2; have r3 := hD.r3; have r4 := hD.r4; have r5 := hD.r5; have r6 := hD.r6; have r7 := hD.r7; have y0 := hD.rz 0; have y1 := hD.rz 1; have y2 := hD.rz 2; have y3 := hD.rz 3; have y4 := hD.rz 4; have y5 := hD.rz 5; have y6 := hD.rz 6; have y7 := hD.rz 7; have HD := Lib.hid hD; clear hD; clear hdr)) | ((with_reducible refine (HTH.out _ HD.out).mono ?_); (rintro e wn ⟨rfl, hdr⟩; have hD := HD.out.below hdr.below; clear k0 z0 r0 y0 k1 z1 r1 y1 k2 z2 r2 y2 k3 z3 r3 y3 k4 z4 r4 y4 k5 z5 r5 y5 k6 z6 r6 y6 k7 z7 r7 y7 HD; have k0 := hD.k0; have k1 := hD.k1; have k2 := hD.k2; have k3 := hD.k3; have k4 := hD.k4; have k5 := hD.k5; have k6 := hD.k6; have k7 := hD.k7; have z0 := hD.kz 0; have z1 := hD.kz 1; have z2 := hD.kz 2; have z3 := hD.kz 3; have z4 := hD.kz 4; have z5 := hD.kz 5; have z6 := hD.kz 6; have z7 := hD.kz 7; have r0 := hD.r0; have r1 := hD.r1; have r2 := hD.r2; have r3 := hD.r3; have r4 := hD.r4; have r5 := hD.r5; have r6 := hD.r6; have r7 := hD.r7; have y0 := hD.rz 0; have y1 := hD.rz 1; have y2 := hD.rz 2; have y3 := hD.rz 3; have y4 := hD.rz 4; have y5 := hD.rz 5; have y6 := hD.rz 6; have y7 := hD.rz 7; have HD := Lib.hid hD; clear hD; clear hdr)))
      refine bodyPost_ret (v := .tuple #[.agg #[.slice At th.length ct, .slice As sv.length cs', .slice Ag gr.length cg, .int .i64 0, .int .i64 sd, .int .i64 dn, .int .i64 pk, .int .i64 co], .int .i64 24]) (by simp [results, Try.f24, go_sem, k0, k1, k2, k3, k4, k5, k6, k7, r0, r1, r2, r3, r4, r5, r6, r7, y0, y1, y2, y3, y4, y5, y6, y7]) rfl ?_
      exact HDN.out _ _ HE.out (by decide) (HD.out)
    | true =>
      have hcap := h.rel.cap_th cs.length hlo (Nat.le_refl _) hmy
      have HE := Lib.hid (show doW x ws cs cap 4 0 = (effW (addW x 0) ws cs 4 0, 0) by unfold doW; rw [if_neg (by rw [hmb, hmy, hex]; decide), hmo, if_neg (by omega)])
      have HREL := Lib.hid (h.rel.emit 0 hcap)
      have HS2 : Hid (∀ v wr, DI w b0 o0 b1 o1 ws cs At ct As cs' Ag cg th sv gr v sd dn pk co wr → _) := Lib.hid fun v wr (hr : DI w b0 o0 b1 o1 ws cs At ct As cs' Ag cg th sv gr v sd dn pk co wr) => h.sum hr (by omega) (fun i hi => by have := (h.rel.th i).1 hi; omega) (fun i hi => by have := (h.rel.gr i).1 hi; omega)
      rw [hmy] at HTH
      have s0 : sumL ws th + sumL ws gr ≤ 26214400000 := by omega
      have s1 : sumL ws th + sumL ws gr ≤ pk := by omega
      clear hex hmy hmo hmb hF h ht hD hW hlen hpk hpkw sw swd hcap HDN
      generalize sumL ws th = SA at *
      generalize sumL ws gr = SB at *
      have hpb : decide (pk < SA + SB) = false := decide_eq_false (by omega)
      go_enter Try.func24, Try.ntmps24
      simp only [scells]
      go_upto_region 2 with (fail)
      rw [← HW.out]
      have hD := HDW.out
      have k0 := hD.k0; have k1 := hD.k1; have k2 := hD.k2; have k3 := hD.k3; have k4 := hD.k4; have k5 := hD.k5; have k6 := hD.k6; have k7 := hD.k7; have z0 := hD.kz 0; have z1 := hD.kz 1; have z2 := hD.kz 2; have z3 := hD.kz 3; have z4 := hD.kz 4; have z5 := hD.kz 5; have z6 := hD.kz 6; have z7 := hD.kz 7; have r0 := hD.r0; have r1 := hD.r1; have r2 := hD.r2; have r3 := hD.r3; have r4 := hD.r4; have r5 := hD.r5; have r6 := hD.r6; have r7 := hD.r7; have y0 := hD.rz 0; have y1 := hD.rz 1; have y2 := hD.rz 2; have y3 := hD.rz 3; have y4 := hD.rz 4; have y5 := hD.rz 5; have y6 := hD.rz 6; have y7 := hD.rz 7; have HD := Lib.hid hD; clear hD
      go_wp2_with (go_at_call 35; first | ((with_reducible refine (HRD.out _ HD.out).mono ?_); (rintro e wn ⟨rfl, hdr⟩; have hD := HD.out.below hdr.below; clear k0 z0 r0 y0 k1 z1 r1 y1 k2 z2 r2 y2 k3 z3 r3 y3 k4 z4 r4 y4 k5 z5 r5 y5 k6 z6 r6 y6 k7 z7 r7 y7 HD; have k0 := hD.k0; have k1 := hD.k1; have k2 := hD.k2; have k3 := hD.k3; have k4 := hD.k4; have k5 := hD.k5; have k6 := hD.k6; have k7 := hD.k7; have z0 := hD.kz 0; have z1 := hD.kz 1; have z2 := hD.kz 2; have z3 := hD.kz 3; have z4 := hD.kz 4; have z5 := hD.kz 5; have z6 := hD.kz 6; have z7 := hD.kz 7; have r0 := hD.r0; have r1 := hD.r1; have r2 := hD.r2; have r3 := hD.r3; have r4 := hD.r4; have r5 := hD.r5; have r6 := hD.r6; have r7 := hD.r7; have y0 := hD.rz 0; have y1 := hD.rz 1; have y2 := hD.rz 2; have y3 := hD.rz 3; have y4 := hD.rz 4; have y5 := hD.rz 5; have y6 := hD.rz 6; have y7 := hD.rz 7; have HD := Lib.hid hD; clear hD; clear hdr)) | ((with_reducible refine (HTH.out _ HD.out).mono ?_); (rintro e wn ⟨rfl, hdr⟩; have hD := HD.out.below hdr.below; clear k0 z0 r0 y0 k1 z1 r1 y1 k2 z2 r2 y2 k3 z3 r3 y3 k4 z4 r4 y4 k5 z5 r5 y5 k6 z6 r6 y6 k7 z7 r7 y7 HD; have k0 := hD.k0; have k1 := hD.k1; have k2 := hD.k2; have k3 := hD.k3; have k4 := hD.k4; have k5 := hD.k5; have k6 := hD.k6; have k7 := hD.k7; have z0 := hD.kz 0; have z1 := hD.kz 1; have z2 := hD.kz 2; have z3 := hD.kz 3; have z4 := hD.kz 4; have z5 := hD.kz 5; have z6 := hD.kz 6; have z7 := hD.kz 7; have r0 := hD.r0; have r1 := hD.r1; have r2 := hD.r2; have r3 := hD.r3; have r4 := hD.r4; have r5 := hD.r5; have r6 := hD.r6; have r7 := hD.r7; have y0 := hD.rz 0; have y1 := hD.rz 1; have y2 := hD.rz 2; have y3 := hD.rz 3; have y4 := hD.rz 4; have y5 := hD.rz 5; have y6 := hD.rz 6; have y7 := hD.rz 7; have HD := Lib.hid hD; clear hD; clear hdr)))
      have hD := HD.out.em_ 1
      obtain ⟨wq, hq⟩ : ∃ wq, wq = wn.setCell ⟨w.heap.size, 3, none⟩ (.int .i64 1) := ⟨_, rfl⟩
      rw [← hq] at hD ⊢
      clear hq
      clear k0 z0 r0 y0 k1 z1 r1 y1 k2 z2 r2 y2 k3 z3 r3 y3 k4 z4 r4 y4 k5 z5 r5 y5 k6 z6 r6 y6 k7 z7 r7 y7 HD
      have k0 := hD.k0; have k1 := hD.k1; have k2 := hD.k2; have k3 := hD.k3; have k4 := hD.k4; have k5 := hD.k5; have k6 := hD.k6; have k7 := hD.k7; have z0 := hD.kz 0; have z1 := hD.kz 1; have z2 := hD.kz 2; have z3 := hD.kz 3; have z4 := hD.kz 4; have z5 := hD.kz 5; have z6 := hD.kz 6; have z7 := hD.kz 7; have r0 := hD.r0; have r1 := hD.r1; have r2 := hD.r2; have r3 := hD.r3; have r4 := hD.r4; have r5 := hD.r5; have r6 := hD.r6; have r7 := hD.r7; have y0 := hD.rz 0; have y1 := hD.rz 1; have y2 := hD.rz 2; have y3 := hD.rz 3; have y4 := hD.rz 4; have y5 := hD.rz 5; have y6 := hD.rz 6; have y7 := hD.rz 7; have HD := Lib.hid hD; clear hD
      have wC : IntKind.i64.wrap (SA + SB) = SA + SB := IntWalk.i64_in _ (by omega)
      go_quiet ((go_at_call 36; first | (with_reducible exact q1_ (fun j => (HS2.out _ _ (HD.out.drewN j)).1)) | (with_reducible exact q1_ (fun j => (HS2.out _ _ (HD.out.drewN j)).2))))
      clear wC hpb
      have hD := HD.out.drewN nq
      obtain ⟨wn, hq⟩ : ∃ wn, wn = wq.drewN nq := ⟨_, rfl⟩
      rw [← hq] at hD ⊢
      clear hq
      clear k0 z0 r0 y0 k1 z1 r1 y1 k2 z2 r2 y2 k3 z3 r3 y3 k4 z4 r4 y4 k5 z5 r5 y5 k6 z6 r6 y6 k7 z7 r7 y7 HD
      have k0 := hD.k0; have k1 := hD.k1; have k2 := hD.k2; have k3 := hD.k3; have k4 := hD.k4; have k5 := hD.k5; have k6 := hD.k6; have k7 := hD.k7; have z0 := hD.kz 0; have z1 := hD.kz 1; have z2 := hD.kz 2; have z3 := hD.kz 3; have z4 := hD.kz 4; have z5 := hD.kz 5; have z6 := hD.kz 6; have z7 := hD.kz 7; have r0 := hD.r0; have r1 := hD.r1; have r2 := hD.r2; have r3 := hD.r3; have r4 := hD.r4; have r5 := hD.r5; have r6 := hD.r6; have r7 := hD.r7; have y0 := hD.rz 0; have y1 := hD.rz 1; have y2 := hD.rz 2; have y3 := hD.rz 3; have y4 := hD.rz 4; have y5 := hD.rz 5; have y6 := hD.rz 6; have y7 := hD.rz 7; have HD := Lib.hid hD; clear hD
      go_wp2_with fail
      refine bodyPost_ret (v := .tuple #[.agg #[.slice At th.length ct, .slice As sv.length cs', .slice Ag gr.length cg, .int .i64 1, .int .i64 sd, .int .i64 dn, .int .i64 pk, .int .i64 co], .int .i64 0]) (by simp [results, Try.f24, go_sem, k0, k1, k2, k3, k4, k5, k6, k7, r0, r1, r2, r3, r4, r5, r6, r7, y0, y1, y2, y3, y4, y5, y6, y7]) rfl ?_
      exact HD.out.done (by rw [HE.out]) (fun _ => by rw [HE.out]; exact HREL.out)
end Go.Proofs.Ytiejdbdbafmccaa
/- part ChRf5 -/
namespace Go.Proofs.Ytiejdbdbafmccaa
open Go.RowKit Go.Proofs.YtiejdbdbafmccaaW.PrintWords Go.Proofs.YtiejdbdbafmccaaW.PrintLast Go.Proofs.Ytiejdbdbafmccaa.PCh
set_option maxRecDepth 100000 in
set_option maxHeartbeats 8000000 in
theorem do_k5 {w : World} {A0 : Option Addr} {c0 : Nat} {A1 : Option Addr} {c1 : Nat} {ws cs : List Int} {cap : Int} {At : Option Addr} {ct : Nat} {As : Option Addr} {cs' : Nat} {Ag : Option Addr} {cg : Nat} {th sv gr : List Int} {em sd dn pk co : Int} {t : Nat} {x : Wk} (h : DoPre w A0 c0 A1 c1 ws cs cap At ct As cs' Ag cg th sv gr em sd dn pk co t x) :
    Calls Try.prog 24 #[.slice A0 ws.length c0, .slice A1 cs.length c1, .int .i64 cap, .agg (scells At ct As cs' Ag cg th sv gr em sd dn pk co), .int .i64 5, .int .i64 0] w (DoR w ws cs cap (t + 1) (doW x ws cs cap 5 0)) := by
  have ht := h.rt_
  have hlen := ht.len
  have hlo := ht.lo
  have hhi := ht.hi
  have hcp := h.cp
  obtain ⟨b0, o0, e0, _, _⟩ := C_at h.r0 (by omega)
  obtain ⟨b1, o1, e1, _, _⟩ := C_at h.r1 (by omega)
  subst e0
  subst e1
  obtain ⟨W, hW⟩ : ∃ W, W = (w.alloc (.cells (scells At ct As cs' Ag cg th sv gr em sd dn pk co) 61)).alloc (.cells z8 61) := ⟨_, rfl⟩
  have hD := h.start hW
  obtain ⟨RD, hF⟩ := h.facts 0 (by omega)
  have HX0 : Hid (∀ wr, RdI w.heap.size wr (some ⟨b0, o0, none⟩) ws → wr.cell? ⟨b0, o0 + cs.length, none⟩ = some (.int .i64 (ws.getD cs.length 0))) := Lib.hid fun wr hr => hr.get (by omega)
  have HW := Lib.hid (show W = (w.alloc (.cells #[.slice At th.length ct, .slice As sv.length cs', .slice Ag gr.length cg, .int .i64 em, .int .i64 sd, .int .i64 dn, .int .i64 pk, .int .i64 co] 61)).alloc (.cells #[.slice none 0 0, .slice none 0 0, .slice none 0 0, .int .i64 0, .int .i64 0, .int .i64 0, .int .i64 0, .int .i64 0] 61) from hW)
  have HDW := Lib.hid hD
  have HDN : Hid (∀ (E : Int) (wr : World), doW x ws cs cap 5 0 = (x, E) → E ≠ 0 → DI w b0 o0 b1 o1 ws cs At ct As cs' Ag cg th sv gr em sd dn pk co wr → _) := Lib.hid fun E wr hE h0 (hr : DI w b0 o0 b1 o1 ws cs At ct As cs' Ag cg th sv gr em sd dn pk co wr) => hr.done (cap := cap) (t := t + 1) (R := doW x ws cs cap 5 0) (E := E) (by rw [hE]) (fun hh => absurd (by rw [hE] at hh; exact hh) h0)
  have HRD : Hid (∀ wr, DI w b0 o0 b1 o1 ws cs At ct As cs' Ag cg th sv gr em sd dn pk co wr → Calls Try.prog 35 #[.slice At th.length ct, .int .i64 (-1)] wr fun e w' => e = .returned (.bool (decide ((-1 : Int) ∈ th))) ∧ Drawn0 wr w') := Lib.hid fun wr hr => (hF.has (-1) wr hr).1
  have sa := hF.sa
  have sb := hF.sb
  have sw := hF.sw
  have swd := hF.wd
  have hl3 := hF.l3
  have hpkw := h.rel.pkw
  have hpk : pk = x.pk := h.rel.pk
  have hsd : sd = flag x.sd := h.rel.sd
  have hmo : moreI ws cs.length 5 0 = ws.getD cs.length 0 := rfl
  have hmb : mayB x cs.length 5 0 = !x.sd := rfl
  generalize decide ((-1 : Int) ∈ th) = RB at *
  have i3 : (cs.length : Int) < (ws.length : Int) := by omega
  have i4 : (0 : Int) ≤ (cs.length : Int) := by omega
  have sx := ws_bd ht cs.length
  have htt := h.tt
  cases hex : x.sd with
  | true =>
    have HE := Lib.hid (show doW x ws cs cap 5 0 = (x, 24) by unfold doW; rw [if_pos (by rw [hmb, hex]; rfl)])
    rw [hex] at hsd
    obtain rfl : sd = 1 := hsd
    clear hex hmo hmb hF h ht hD hW hlen sw hpk
    go_enter Try.func24, Try.ntmps24
    simp only [scells]
    go_upto_region 2 with (fail)
    rw [← HW.out]
    have hD := HDW.out
    have k0 := hD.k0; have k1 := hD.k1; have k2 := hD.k2; have k3 := hD.k3; have k4 := hD.k4; have k5 := hD.k5; have k6 := hD.k6; have k7 := hD.k7; have z0 := hD.kz 0; have z1 := hD.kz 1; have z2 := hD.kz 2; have z3 := hD.kz 3; have z4 := hD.kz 4; have z5 := hD.kz 5; have z6 := hD.kz 6; have z7 := hD.kz 7; have r0 := hD.r0; have r1 := hD.r1; have r2 := hD.r2; have r3 := hD.r3; have r4 := hD.r4; have r5 := hD.r5; have r6 := hD.r6; have r7 := hD.r7; have y0 := hD.rz 0; have y1 := hD.rz 1; have y2 := hD.rz 2; have y3 := hD.rz 3; have y4 := hD.rz 4; have y5 := hD.rz 5; have y6 := hD.rz 6; have y7 := hD.rz 7; have x0 := HX0.out _ hD.rw_; have HD := Lib.hid hD; clear hD
    go_wp2_with (go_at_call 35; first | ((with_reducible refine (HRD.out _ HD.out).mono ?_); (rintro e wn ⟨rfl, hdr⟩; have hD := HD.out.below hdr.below; clear k0 z0 r0 y0 k1 z1 r1 y1 k2 z2 r2 y2 k3 z3 r3 y3 k4 z4 r4 y4 k5 z5 r5 y5 k6 z6 r6 y6 k7 z7 r7 y7 x0 HD; have k0 := hD.k0; have k1 := hD.k1; have k2 := hD.k2; have k3 := hD.k3; have k4 := hD.k4; have k5 := hD.k5; have k6 := hD.k6; have k7 := hD.k7; have z0 := hD.kz 0; have z1 := hD.kz 1; have z2 := hD.kz 2; have z3 := hD.kz 3; have z4 := hD.kz 4; have z5 := hD.kz 5; have z6 := hD.kz 6; have z7 := hD.kz 7; have r0 := hD.r0; have r1 := hD.r1; have r2 := hD.r2; have r3 := hD.r3; have r4 := hD.r4; have r5 := hD.r5; have r6 := hD.r6; have r7 := hD.r7; have y0 := hD.rz 0; have y1 := hD.rz 1; have y2 := hD.rz 2; have y3 := hD.rz 3; have y4 := hD.rz 4; have y5 := hD.rz 5; have y6 := hD.rz 6; have y7 := hD.rz 7; have x0 := HX0.out _ hD.rw_; have HD := Lib.hid hD; clear hD; clear hdr)))
    refine bodyPost_ret (v := .tuple #[.agg #[.slice At th.length ct, .slice As sv.length cs', .slice Ag gr.length cg, .int .i64 em, .int .i64 1, .int .i64 dn, .int .i64 pk, .int .i64 co], .int .i64 24]) (by simp [results, Try.f24, go_sem, k0, k1, k2, k3, k4, k5, k6, k7, r0, r1, r2, r3, r4, r5, r6, r7, y0, y1, y2, y3, y4, y5, y6, y7]) rfl ?_
    exact HDN.out _ _ HE.out (by decide) (HD.out)
  | false =>
    rw [hex] at hsd
    obtain rfl : sd = 0 := hsd
    have HSM : Hid (∀ wr, DI w b0 o0 b1 o1 ws cs At ct As cs' Ag cg th sv gr em 0 dn pk co wr → _) := Lib.hid fun wr (hr : DI w b0 o0 b1 o1 ws cs At ct As cs' Ag cg th sv gr em 0 dn pk co wr) => h.sum hr (by omega) (fun i hi => by have := (h.rel.th i).1 hi; omega) (fun i hi => by have := (h.rel.gr i).1 hi; omega)
    by_cases hc : cap < x.wd + ws.getD cs.length 0
    · have HE := Lib.hid (show doW x ws cs cap 5 0 = (x, 25) by unfold doW; rw [if_neg (by rw [hmb, hex]; decide), hmo, if_pos hc])
      have s0 : sumL ws th + sumL ws gr ≤ 26214400000 := by omega
      have hc2 : cap < sumL ws th + sumL ws gr + ws.getD cs.length 0 := by omega
      clear hex hmo hmb hF h ht hD hW hlen hpk hpkw sw swd hc htt
      generalize sumL ws th = SA at *
      generalize sumL ws gr = SB at *
      generalize ws.getD cs.length 0 = X at *
      have hcb : decide (cap < SA + SB + X) = true := decide_eq_true hc2
      clear hc2
      go_enter Try.func24, Try.ntmps24
      simp only [scells]
      go_upto_region 2 with (fail)
      rw [← HW.out]
      have hD := HDW.out
      have k0 := hD.k0; have k1 := hD.k1; have k2 := hD.k2; have k3 := hD.k3; have k4 := hD.k4; have k5 := hD.k5; have k6 := hD.k6; have k7 := hD.k7; have z0 := hD.kz 0; have z1 := hD.kz 1; have z2 := hD.kz 2; have z3 := hD.kz 3; have z4 := hD.kz 4; have z5 := hD.kz 5; have z6 := hD.kz 6; have z7 := hD.kz 7; have r0 := hD.r0; have r1 := hD.r1; have r2 := hD.r2; have r3 := hD.r3; have r4 := hD.r4; have r5 := hD.r5; have r6 := hD.r6; have r7 := hD.r7; have y0 := hD.rz 0; have y1 := hD.rz 1; have y2 := hD.rz 2; have y3 := hD.rz 3; have y4 := hD.rz 4; have y5 := hD.rz 5; have y6 := hD.rz 6; have y7 := hD.rz 7; have x0 := HX0.out _ hD.rw_; have HD := Lib.hid hD; clear hD
      go_wp2_with (go_at_call 35; first | ((with_reducible refine (HRD.out _ HD.out).mono ?_); (rintro e wn ⟨rfl, hdr⟩; have hD := HD.out.below hdr.below; clear k0 z0 r0 y0 k1 z1 r1 y1 k2 z2 r2 y2 k3 z3 r3 y3 k4 z4 r4 y4 k5 z5 r5 y5 k6 z6 r6 y6 k7 z7 r7 y7 x0 HD; have k0 := hD.k0; have k1 := hD.k1; have k2 := hD.k2; have k3 := hD.k3; have k4 := hD.k4; have k5 := hD.k5; have k6 := hD.k6; have k7 := hD.k7; have z0 := hD.kz 0; have z1 := hD.kz 1; have z2 := hD.kz 2; have z3 := hD.kz 3; have z4 := hD.kz 4; have z5 := hD.kz 5; have z6 := hD.kz 6; have z7 := hD.kz 7; have r0 := hD.r0; have r1 := hD.r1; have r2 := hD.r2; have r3 := hD.r3; have r4 := hD.r4; have r5 := hD.r5; have r6 := hD.r6; have r7 := hD.r7; have y0 := hD.rz 0; have y1 := hD.rz 1; have y2 := hD.rz 2; have y3 := hD.rz 3; have y4 := hD.rz 4; have y5 := hD.rz 5; have y6 := hD.rz 6; have y7 := hD.rz 7; have x0 := HX0.out _ hD.rw_; have HD := Lib.hid hD; clear hD; clear hdr)))
      have wA : IntKind.i64.wrap (SA + SB) = SA + SB := IntWalk.i64_in _ (by omega)
      have wB : IntKind.i64.wrap (SA + SB + X) = SA + SB + X := IntWalk.i64_in _ (by omega)
      go_quiet ((go_at_call 36; first | (with_reducible exact q1_ (fun j => (HSM.out _ (HD.out.drewN j)).1)) | (with_reducible exact q1_ (fun j => (HSM.out _ (HD.out.drewN j)).2))))
      clear wA wB
      go_wp2_with fail
      refine bodyPost_ret (v := .tuple #[.agg #[.slice At th.length ct, .slice As sv.length cs', .slice Ag gr.length cg, .int .i64 em, .int .i64 0, .int .i64 dn, .int .i64 pk, .int .i64 co], .int .i64 25]) (by simp [results, Try.f24, go_sem, k0, k1, k2, k3, k4, k5, k6, k7, r0, r1, r2, r3, r4, r5, r6, r7, y0, y1, y2, y3, y4, y5, y6, y7]) rfl ?_
      exact HDN.out _ _ HE.out (by decide) (HD.out.drewN _)
    · have HE := Lib.hid (show doW x ws cs cap 5 0 = (effW (addW x (ws.getD cs.length 0)) ws cs 5 0, 0) by unfold doW; rw [if_neg (by rw [hmb, hex]; decide), hmo, if_neg hc])
      have hrel := h.rel.seed ht 0 hex (by omega)
      obtain ⟨gr2, hgr2⟩ : ∃ l, l = gr ++ [(cs.length : Int)] := ⟨_, rfl⟩
      simp only at hrel
      rw [← hgr2] at hrel
      have hsum : sumL ws gr2 = sumL ws gr + ws.getD cs.length 0 := by rw [hgr2, sumL_app, sumL_cons, sumL_nil, Int.toNat_natCast]; omega
      have HREL0 := Lib.hid hrel
      have hlg2 := HREL0.out.lg
      simp only at hlg2
      have HS2 : Hid (∀ A2 c2 p wr, DI w b0 o0 b1 o1 ws cs At ct As cs' A2 c2 th sv gr2 em 1 dn p co wr → _) := Lib.hid fun A2 c2 p wr (hr : DI w b0 o0 b1 o1 ws cs At ct As cs' A2 c2 th sv gr2 em 1 dn p co wr) => h.sum hr (by omega) (fun i hi => by have := (h.rel.th i).1 hi; omega) (fun i hi => by have := (HREL0.out.gr i).1 hi; omega)
      have HW1 : Hid (∀ v wr, DI w b0 o0 b1 o1 ws cs At ct As cs' Ag cg th sv gr em v dn pk co wr → Calls Try.prog 37 #[.slice Ag gr.length cg, .int .i64 (cs.length : Int)] wr (NewR w b0 o0 b1 o1 ws cs At ct As cs' Ag cg th sv gr em v dn pk co gr2)) := Lib.hid fun v wr hr => by rw [hgr2]; exact hr.withC _ hr.rg hr.lg (by omega)
      rw [hsum] at HS2
      rw [← sw] at hrel hc
      have s0 : sumL ws th + sumL ws gr ≤ 26214400000 := by omega
      clear hex hmo hmb hF h ht hD hW hlen hsum hgr2 HREL0 hpk hpkw sw swd HDN htt hlg2
      generalize sumL ws th = SA at *
      generalize sumL ws gr = SB at *
      generalize ws.getD cs.length 0 = X at *
      have hcb : decide (cap < SA + SB + X) = false := decide_eq_false hc
      clear hc
      by_cases hp : pk < SA + (SB + X)
      · have hpb : decide (pk < SA + (SB + X)) = true := by simp; omega
        rw [show max pk (SA + SB + X) = (SA + (SB + X)) by omega] at hrel
        have HREL := Lib.hid hrel
        clear hrel hp
        go_enter Try.func24, Try.ntmps24
        simp only [scells]
        go_upto_region 2 with (fail)
        rw [← HW.out]
        have hD := HDW.out
        have k0 := hD.k0; have k1 := hD.k1; have k2 := hD.k2; have k3 := hD.k3; have k4 := hD.k4; have k5 := hD.k5; have k6 := hD.k6; have k7 := hD.k7; have z0 := hD.kz 0; have z1 := hD.kz 1; have z2 := hD.kz 2; have z3 := hD.kz 3; have z4 := hD.kz 4; have z5 := hD.kz 5; have z6 := hD.kz 6; have z7 := hD.kz 7; have r0 := hD.r0; have r1 := hD.r1; have r2 := hD.r2; have r3 := hD.r3; have r4 := hD.r4; have r5 := hD.r5; have r6 := hD.r6; have r7 := hD.r7; have y0 := hD.rz 0; have y1 := hD.rz 1; have y2 := hD.rz 2; have y3 := hD.rz 3; have y4 := hD.rz 4; have y5 := hD.rz 5; have y6 := hD.rz 6; have y7 := hD.rz 7; have x0 := HX0.out _ hD.rw_; have HD := Lib.hid hD; clear hD
        go_wp2_with (go_at_call 35; first | ((with_reducible refine (HRD.out _ HD.out).mono ?_); (rintro e wn ⟨rfl, hdr⟩; have hD := HD.out.below hdr.below; clear k0 z0 r0 y0 k1 z1 r1 y1 k2 z2 r2 y2 k3 z3 r3 y3 k4 z4 r4 y4 k5 z5 r5 y5 k6 z6 r6 y6 k7 z7 r7 y7 x0 HD; have k0 := hD.k0; have k1 := hD.k1; have k2 := hD.k2; have k3 := hD.k3; have k4 := hD.k4; have k5 := hD.k5; have k6 := hD.k6; have k7 := hD.k7; have z0 := hD.kz 0; have z1 := hD.kz 1; have z2 := hD.kz 2; have z3 := hD.kz 3; have z4 := hD.kz 4; have z5 := hD.kz 5; have z6 := hD.kz 6; have z7 := hD.kz 7; have r0 := hD.r0; have r1 := hD.r1; have r2 := hD.r2; have r3 := hD.r3; have r4 := hD.r4; have r5 := hD.r5; have r6 := hD.r6; have r7 := hD.r7; have y0 := hD.rz 0; have y1 := hD.rz 1; have y2 := hD.rz 2; have y3 := hD.rz 3; have y4 := hD.rz 4; have y5 := hD.rz 5; have y6 := hD.rz 6; have y7 := hD.rz 7; have x0 := HX0.out _ hD.rw_; have HD := Lib.hid hD; clear hD; clear hdr)))
        have wA : IntKind.i64.wrap (SA + SB) = SA + SB := IntWalk.i64_in _ (by omega)
        have wB : IntKind.i64.wrap (SA + SB + X) = SA + SB + X := IntWalk.i64_in _ (by omega)
        go_quiet ((go_at_call 36; first | (with_reducible exact q1_ (fun j => (HSM.out _ (HD.out.drewN j)).1)) | (with_reducible exact q1_ (fun j => (HSM.out _ (HD.out.drewN j)).2))))
        clear wA wB hcb
        have hD := HD.out.drewN nq
        obtain ⟨wq, hq⟩ : ∃ wq, wq = wn.drewN nq := ⟨_, rfl⟩
        rw [← hq] at hD ⊢
        clear hq
        clear k0 z0 r0 y0 k1 z1 r1 y1 k2 z2 r2 y2 k3 z3 r3 y3 k4 z4 r4 y4 k5 z5 r5 y5 k6 z6 r6 y6 k7 z7 r7 y7 x0 HD
        have k0 := hD.k0; have k1 := hD.k1; have k2 := hD.k2; have k3 := hD.k3; have k4 := hD.k4; have k5 := hD.k5; have k6 := hD.k6; have k7 := hD.k7; have z0 := hD.kz 0; have z1 := hD.kz 1; have z2 := hD.kz 2; have z3 := hD.kz 3; have z4 := hD.kz 4; have z5 := hD.kz 5; have z6 := hD.kz 6; have z7 := hD.kz 7; have r0 := hD.r0; have r1 := hD.r1; have r2 := hD.r2; have r3 := hD.r3; have r4 := hD.r4; have r5 := hD.r5; have r6 := hD.r6; have r7 := hD.r7; have y0 := hD.rz 0; have y1 := hD.rz 1; have y2 := hD.rz 2; have y3 := hD.rz 3; have y4 := hD.rz 4; have y5 := hD.rz 5; have y6 := hD.rz 6; have y7 := hD.rz 7; have x0 := HX0.out _ hD.rw_; have HD := Lib.hid hD; clear hD
        go_wp2_with fail
        have hD := HD.out.sd_ 1
        obtain ⟨wn, hq⟩ : ∃ wn, wn = wq.setCell ⟨w.heap.size, 4, none⟩ (.int .i64 1) := ⟨_, rfl⟩
        rw [← hq] at hD ⊢
        clear hq
        clear k0 z0 r0 y0 k1 z1 r1 y1 k2 z2 r2 y2 k3 z3 r3 y3 k4 z4 r4 y4 k5 z5 r5 y5 k6 z6 r6 y6 k7 z7 r7 y7 x0 HD
        have k0 := hD.k0; have k1 := hD.k1; have k2 := hD.k2; have k3 := hD.k3; have k4 := hD.k4; have k5 := hD.k5; have k6 := hD.k6; have k7 := hD.k7; have z0 := hD.kz 0; have z1 := hD.kz 1; have z2 := hD.kz 2; have z3 := hD.kz 3; have z4 := hD.kz 4; have z5 := hD.kz 5; have z6 := hD.kz 6; have z7 := hD.kz 7; have r0 := hD.r0; have r1 := hD.r1; have r2 := hD.r2; have r3 := hD.r3; have r4 := hD.r4; have r5 := hD.r5; have r6 := hD.r6; have r7 := hD.r7; have y0 := hD.rz 0; have y1 := hD.rz 1; have y2 := hD.rz 2; have y3 := hD.rz 3; have y4 := hD.rz 4; have y5 := hD.rz 5; have y6 := hD.rz 6; have y7 := hD.rz 7; have x0 := HX0.out _ hD.rw_; have HD := Lib.hid hD; clear hD
        refine (HW1.out _ _ HD.out).mono ?_
        rintro e wn ⟨A2, c2, rfl, hl2, hr2, hD⟩
        have HL2 := Lib.hid hl2
        have HR2 := Lib.hid hr2
        clear hl2 hr2
        clear k0 z0 r0 y0 k1 z1 r1 y1 k2 z2 r2 y2 k3 z3 r3 y3 k4 z4 r4 y4 k5 z5 r5 y5 k6 z6 r6 y6 k7 z7 r7 y7 x0 HD
        have k0 := hD.k0; have k1 := hD.k1; have k2 := hD.k2; have k3 := hD.k3; have k4 := hD.k4; have k5 := hD.k5; have k6 := hD.k6; have k7 := hD.k7; have z0 := hD.kz 0; have z1 := hD.kz 1; have z2 := hD.kz 2; have z3 := hD.kz 3; have z4 := hD.kz 4; have z5 := hD.kz 5; have z6 := hD.kz 6; have z7 := hD.kz 7; have r0 := hD.r0; have r1 := hD.r1; have r2 := hD.r2; have r3 := hD.r3; have r4 := hD.r4; have r5 := hD.r5; have r6 := hD.r6; have r7 := hD.r7; have y0 := hD.rz 0; have y1 := hD.rz 1; have y2 := hD.rz 2; have y3 := hD.rz 3; have y4 := hD.rz 4; have y5 := hD.rz 5; have y6 := hD.rz 6; have y7 := hD.rz 7; have x0 := HX0.out _ hD.rw_; have HD := Lib.hid hD; clear hD
        go_wp2_with fail
        have hD := HD.out.gr_ HR2.out HL2.out
        obtain ⟨wq, hq⟩ : ∃ wq, wq = wn.setCell ⟨w.heap.size, 2, none⟩ (.slice A2 gr2.length c2) := ⟨_, rfl⟩
        rw [← hq] at hD ⊢
        clear hq HR2 HL2
        clear k0 z0 r0 y0 k1 z1 r1 y1 k2 z2 r2 y2 k3 z3 r3 y3 k4 z4 r4 y4 k5 z5 r5 y5 k6 z6 r6 y6 k7 z7 r7 y7 x0 HD
        have k0 := hD.k0; have k1 := hD.k1; have k2 := hD.k2; have k3 := hD.k3; have k4 := hD.k4; have k5 := hD.k5; have k6 := hD.k6; have k7 := hD.k7; have z0 := hD.kz 0; have z1 := hD.kz 1; have z2 := hD.kz 2; have z3 := hD.kz 3; have z4 := hD.kz 4; have z5 := hD.kz 5; have z6 := hD.kz 6; have z7 := hD.kz 7; have r0 := hD.r0; have r1 := hD.r1; have r2 := hD.r2; have r3 := hD.r3; have r4 := hD.r4; have r5 := hD.r5; have r6 := hD.r6; have r7 := hD.r7; have y0 := hD.rz 0; have y1 := hD.rz 1; have y2 := hD.rz 2; have y3 := hD.rz 3; have y4 := hD.rz 4; have y5 := hD.rz 5; have y6 := hD.rz 6; have y7 := hD.rz 7; have x0 := HX0.out _ hD.rw_; have HD := Lib.hid hD; clear hD
        have wC : IntKind.i64.wrap (SA + (SB + X)) = SA + (SB + X) := IntWalk.i64_in _ (by omega)
        go_quiet ((go_at_call 36; first | (with_reducible exact q1_ (fun j => (HS2.out _ _ _ _ (HD.out.drewN j)).1)) | (with_reducible exact q1_ (fun j => (HS2.out _ _ _ _ (HD.out.drewN j)).2))))
        clear wC hpb
        have hD := HD.out.drewN nq
        obtain ⟨wn, hq⟩ : ∃ wn, wn = wq.drewN nq := ⟨_, rfl⟩
        rw [← hq] at hD ⊢
        clear hq
        clear k0 z0 r0 y0 k1 z1 r1 y1 k2 z2 r2 y2 k3 z3 r3 y3 k4 z4 r4 y4 k5 z5 r5 y5 k6 z6 r6 y6 k7 z7 r7 y7 x0 HD
        have k0 := hD.k0; have k1 := hD.k1; have k2 := hD.k2; have k3 := hD.k3; have k4 := hD.k4; have k5 := hD.k5; have k6 := hD.k6; have k7 := hD.k7; have z0 := hD.kz 0; have z1 := hD.kz 1; have z2 := hD.kz 2; have z3 := hD.kz 3; have z4 := hD.kz 4; have z5 := hD.kz 5; have z6 := hD.kz 6; have z7 := hD.kz 7; have r0 := hD.r0; have r1 := hD.r1; have r2 := hD.r2; have r3 := hD.r3; have r4 := hD.r4; have r5 := hD.r5; have r6 := hD.r6; have r7 := hD.r7; have y0 := hD.rz 0; have y1 := hD.rz 1; have y2 := hD.rz 2; have y3 := hD.rz 3; have y4 := hD.rz 4; have y5 := hD.rz 5; have y6 := hD.rz 6; have y7 := hD.rz 7; have x0 := HX0.out _ hD.rw_; have HD := Lib.hid hD; clear hD
        go_wp2_with fail
        refine start_ (n := 11) (S := fun w' => w'.cell? ⟨w.heap.size, 0, none⟩ = some (.slice At th.length ct) ∧ w'.cell? ⟨w.heap.size, 2, none⟩ = some (.slice A2 gr2.length c2)) (ds := [10]) #[false, false, false, false, false, false, false, false, false, false, false] (by kernel_rfl) rfl rfl ⟨k0, k2⟩ (fun hHeld => ?_)
        refine pure_ (i := 0) (N := some 203) (v := ?_) (a' := ?_) #[true, false, false, false, false, false, false, false, false, false, false] rfl rfl (by kernel_rfl) (fun _ _ _ h => h) (Or.inl ⟨by rfl, ?_⟩) ?_ ?_
        rotate_left
        · intro w'
          go_simp
          with_reducible rfl
        rotate_left
        · simp only [Act.put, List.setIfInBounds_toArray, List.set_cons_zero, List.set_cons_succ, i64_w, i32_w]
          rfl
        refine pure_ (i := 1) (N := some 204) (v := ?_) (a' := ?_) #[true, true, false, false, false, false, false, false, false, false, false] rfl rfl (by kernel_rfl) (fun _ _ _ h => h) (Or.inl ⟨by rfl, ?_⟩) ?_ ?_
        rotate_left
        · intro w'
          go_simp
          with_reducible rfl
        rotate_left
        · simp only [Act.put, List.setIfInBounds_toArray, List.set_cons_zero, List.set_cons_succ, i64_w, i32_w]
          rfl
        refine pure_ (i := 4) (N := some 207) (v := ?_) (a' := ?_) #[true, true, false, false, true, false, false, false, false, false, false] rfl rfl (by kernel_rfl) (fun _ _ _ h => h) (Or.inl ⟨by rfl, ?_⟩) ?_ ?_
        rotate_left
        · intro w'
          go_simp
          with_reducible rfl
        rotate_left
        · simp only [Act.put, List.setIfInBounds_toArray, List.set_cons_zero, List.set_cons_succ, i64_w, i32_w]
          rfl
        refine pure_ (i := 5) (N := some 208) (v := ?_) (a' := ?_) #[true, true, false, false, true, true, false, false, false, false, false] rfl rfl (by kernel_rfl) (fun _ _ _ h => h) (Or.inl ⟨by rfl, ?_⟩) ?_ ?_
        rotate_left
        · intro w'
          go_simp
          with_reducible rfl
        rotate_left
        · simp only [Act.put, List.setIfInBounds_toArray, List.set_cons_zero, List.set_cons_succ, i64_w, i32_w]
          rfl
        refine take_ (i := 2) (N := some 205) (v := ?_) (a' := ?_) #[true, true, true, false, true, true, false, false, false, false, false] rfl rfl (by kernel_rfl) (fun _ _ _ h => h) (Or.inl ⟨by rfl, ?_⟩) hHeld ?_ ?_
        rotate_left
        · rintro w' ⟨s0, s1⟩
          go_simp
          with_reducible rfl
        rotate_left
        · simp only [Act.put, List.setIfInBounds_toArray, List.set_cons_zero, List.set_cons_succ, i64_w, i32_w]
          rfl
        refine take_ (i := 6) (N := some 209) (v := ?_) (a' := ?_) #[true, true, true, false, true, true, true, false, false, false, false] rfl rfl (by kernel_rfl) (fun _ _ _ h => h) (Or.inl ⟨by rfl, ?_⟩) hHeld ?_ ?_
        rotate_left
        · rintro w' ⟨s0, s1⟩
          go_simp
          with_reducible rfl
        rotate_left
        · simp only [Act.put, List.setIfInBounds_toArray, List.set_cons_zero, List.set_cons_succ, i64_w, i32_w]
          rfl
        refine one_ (i := 3) (N := some 206) #[true, true, true, true, true, true, true, false, false, false, false] rfl rfl (by kernel_rfl) (by decide) (fun K hK => ?_)
        refine goes_ Try.func36 (by kernel_rfl) rfl #[.slice (some ⟨b0, o0, none⟩) ws.length c0, .slice At th.length ct] (by rfl) rfl rfl (by simp only [List.map_toArray, List.map_cons, List.map_nil]; rfl) ?_
        with_reducible refine ((HS2.out _ _ _ _ HD.out.drew).1).mono ?_
        rintro e w1 ⟨rfl, hd1⟩
        refine ⟨_, rfl, ?_⟩
        have hD1 := HD.out.drew.below hd1.below
        clear hd1
        refine hK.out _ _ ⟨hD1.k0, hD1.k2⟩ (fun hHeld => ?_)
        clear hK K
        refine norm_ (a' := ?_) ?_ ?_
        rotate_left
        · show Act.put _ (some 206) _ = _
          simp only [Act.put, List.setIfInBounds_toArray, List.set_cons_zero, List.set_cons_succ, i64_w, i32_w]
          rfl
        refine one_ (i := 7) (N := some 210) #[true, true, true, true, true, true, true, true, false, false, false] rfl rfl (by kernel_rfl) (by decide) (fun K hK => ?_)
        refine goes_ Try.func36 (by kernel_rfl) rfl #[.slice (some ⟨b0, o0, none⟩) ws.length c0, .slice A2 gr2.length c2] (by rfl) rfl rfl (by simp only [List.map_toArray, List.map_cons, List.map_nil]; rfl) ?_
        with_reducible refine ((HS2.out _ _ _ _ hD1).2).mono ?_
        rintro e w2 ⟨rfl, hd2⟩
        refine ⟨_, rfl, ?_⟩
        have hD2 := hD1.below hd2.below
        clear hd2
        have p6 := hD2.k6
        have pz := hD2.kz 6
        refine hK.out _ _ ⟨hD2.k0, hD2.k2⟩ (fun hHeld => ?_)
        clear hK K
        refine norm_ (a' := ?_) ?_ ?_
        rotate_left
        · show Act.put _ (some 210) _ = _
          simp only [Act.put, List.setIfInBounds_toArray, List.set_cons_zero, List.set_cons_succ, i64_w, i32_w]
          rfl
        refine pure_ (i := 8) (N := some 211) (v := ?_) (a' := ?_) #[true, true, true, true, true, true, true, true, true, false, false] rfl rfl (by kernel_rfl) (fun _ _ _ h => h) (Or.inl ⟨by rfl, ?_⟩) ?_ ?_
        rotate_left
        · intro w'
          go_simp
          with_reducible rfl
        rotate_left
        · simp only [Act.put, List.setIfInBounds_toArray, List.set_cons_zero, List.set_cons_succ, i64_w, i32_w]
          rfl
        refine pure_ (i := 9) (N := some 212) (v := ?_) (a' := ?_) #[true, true, true, true, true, true, true, true, true, true, false] rfl rfl (by kernel_rfl) (fun _ _ _ h => h) (Or.inl ⟨by rfl, ?_⟩) ?_ ?_
        rotate_left
        · intro w'
          go_simp
          with_reducible rfl
        rotate_left
        · simp only [Act.put, List.setIfInBounds_toArray, List.set_cons_zero, List.set_cons_succ, i64_w, i32_w]
          rfl
        refine last_ (i := 10) (N := none) #[true, true, true, true, true, true, true, true, true, true, true] rfl rfl (by kernel_rfl) (by decide) (fun K hK => ?_)
        refine skip_ (w1 := ?_) (by rfl) rfl ?_ ?_
        rotate_left
        · go_simp
          rfl
        refine hK.out _ _ ?_
        clear hK K
        refine done_ (by kernel_rfl) ?_
        (try clear hHeld)
        have hws : wrap64 (SA + (SB + X)) = (SA + (SB + X)) := wr64 (by omega) (by omega)
        (try rw [hws])
        clear hws
        have hD := hD2.pk_ (SA + (SB + X))
        obtain ⟨wn, hq⟩ : ∃ wn, wn = w2.setCell ⟨w.heap.size, 6, none⟩ (.int .i64 (SA + (SB + X))) := ⟨_, rfl⟩
        rw [← hq] at hD ⊢
        clear hq hD1 hD2 p6 pz
        clear k0 z0 r0 y0 k1 z1 r1 y1 k2 z2 r2 y2 k3 z3 r3 y3 k4 z4 r4 y4 k5 z5 r5 y5 k6 z6 r6 y6 k7 z7 r7 y7 x0 HD
        have k0 := hD.k0; have k1 := hD.k1; have k2 := hD.k2; have k3 := hD.k3; have k4 := hD.k4; have k5 := hD.k5; have k6 := hD.k6; have k7 := hD.k7; have z0 := hD.kz 0; have z1 := hD.kz 1; have z2 := hD.kz 2; have z3 := hD.kz 3; have z4 := hD.kz 4; have z5 := hD.kz 5; have z6 := hD.kz 6; have z7 := hD.kz 7; have r0 := hD.r0; have r1 := hD.r1; have r2 := hD.r2; have r3 := hD.r3; have r4 := hD.r4; have r5 := hD.r5; have r6 := hD.r6; have r7 := hD.r7; have y0 := hD.rz 0; have y1 := hD.rz 1; have y2 := hD.rz 2; have y3 := hD.rz 3; have y4 := hD.rz 4; have y5 := hD.rz 5; have y6 := hD.rz 6; have y7 := hD.rz 7; have x0 := HX0.out _ hD.rw_; have HD := Lib.hid hD; clear hD
        go_wp2_with fail
        refine bodyPost_ret (v := .tuple #[.agg #[.slice At th.length ct, .slice As sv.length cs', .slice A2 gr2.length c2, .int .i64 em, .int .i64 1, .int .i64 dn, .int .i64 (SA + (SB + X)), .int .i64 co], .int .i64 0]) (by simp [results, Try.f24, go_sem, k0, k1, k2, k3, k4, k5, k6, k7, r0, r1, r2, r3, r4, r5, r6, r7, y0, y1, y2, y3, y4, y5, y6, y7]) rfl ?_
        exact HD.out.done (by rw [HE.out]) (fun _ => by rw [HE.out]; exact HREL.out)
      · have hpb : decide (pk < SA + (SB + X)) = false := by simp; omega
        rw [show max pk (SA + SB + X) = pk by omega] at hrel
        have HREL := Lib.hid hrel
        clear hrel hp
        go_enter Try.func24, Try.ntmps24
        simp only [scells]
        go_upto_region 2 with (fail)
        rw [← HW.out]
        have hD := HDW.out
        have k0 := hD.k0; have k1 := hD.k1; have k2 := hD.k2; have k3 := hD.k3; have k4 := hD.k4; have k5 := hD.k5; have k6 := hD.k6; have k7 := hD.k7; have z0 := hD.kz 0; have z1 := hD.kz 1; have z2 := hD.kz 2; have z3 := hD.kz 3; have z4 := hD.kz 4; have z5 := hD.kz 5; have z6 := hD.kz 6; have z7 := hD.kz 7; have r0 := hD.r0; have r1 := hD.r1; have r2 := hD.r2; have r3 := hD.r3; have r4 := hD.r4; have r5 := hD.r5; have r6 := hD.r6; have r7 := hD.r7; have y0 := hD.rz 0; have y1 := hD.rz 1; have y2 := hD.rz 2; have y3 := hD.rz 3; have y4 := hD.rz 4; have y5 := hD.rz 5; have y6 := hD.rz 6; have y7 := hD.rz 7; have x0 := HX0.out _ hD.rw_; have HD := Lib.hid hD; clear hD
        go_wp2_with (go_at_call 35; first | ((with_reducible refine (HRD.out _ HD.out).mono ?_); (rintro e wn ⟨rfl, hdr⟩; have hD := HD.out.below hdr.below; clear k0 z0 r0 y0 k1 z1 r1 y1 k2 z2 r2 y2 k3 z3 r3 y3 k4 z4 r4 y4 k5 z5 r5 y5 k6 z6 r6 y6 k7 z7 r7 y7 x0 HD; have k0 := hD.k0; have k1 := hD.k1; have k2 := hD.k2; have k3 := hD.k3; have k4 := hD.k4; have k5 := hD.k5; have k6 := hD.k6; have k7 := hD.k7; have z0 := hD.kz 0; have z1 := hD.kz 1; have z2 := hD.kz 2; have z3 := hD.kz 3; have z4 := hD.kz 4; have z5 := hD.kz 5; have z6 := hD.kz 6; have z7 := hD.kz 7; have r0 := hD.r0; have r1 := hD.r1; have r2 := hD.r2; have r3 := hD.r3; have r4 := hD.r4; have r5 := hD.r5; have r6 := hD.r6; have r7 := hD.r7; have y0 := hD.rz 0; have y1 := hD.rz 1; have y2 := hD.rz 2; have y3 := hD.rz 3; have y4 := hD.rz 4; have y5 := hD.rz 5; have y6 := hD.rz 6; have y7 := hD.rz 7; have x0 := HX0.out _ hD.rw_; have HD := Lib.hid hD; clear hD; clear hdr)))
        have wA : IntKind.i64.wrap (SA + SB) = SA + SB := IntWalk.i64_in _ (by omega)
        have wB : IntKind.i64.wrap (SA + SB + X) = SA + SB + X := IntWalk.i64_in _ (by omega)
        go_quiet ((go_at_call 36; first | (with_reducible exact q1_ (fun j => (HSM.out _ (HD.out.drewN j)).1)) | (with_reducible exact q1_ (fun j => (HSM.out _ (HD.out.drewN j)).2))))
        clear wA wB hcb
        have hD := HD.out.drewN nq
        obtain ⟨wq, hq⟩ : ∃ wq, wq = wn.drewN nq := ⟨_, rfl⟩
        rw [← hq] at hD ⊢
        clear hq
        clear k0 z0 r0 y0 k1 z1 r1 y1 k2 z2 r2 y2 k3 z3 r3 y3 k4 z4 r4 y4 k5 z5 r5 y5 k6 z6 r6 y6 k7 z7 r7 y7 x0 HD
        have k0 := hD.k0; have k1 := hD.k1; have k2 := hD.k2; have k3 := hD.k3; have k4 := hD.k4; have k5 := hD.k5; have k6 := hD.k6; have k7 := hD.k7; have z0 := hD.kz 0; have z1 := hD.kz 1; have z2 := hD.kz 2; have z3 := hD.kz 3; have z4 := hD.kz 4; have z5 := hD.kz 5; have z6 := hD.kz 6; have z7 := hD.kz 7; have r0 := hD.r0; have r1 := hD.r1; have r2 := hD.r2; have r3 := hD.r3; have r4 := hD.r4; have r5 := hD.r5; have r6 := hD.r6; have r7 := hD.r7; have y0 := hD.rz 0; have y1 := hD.rz 1; have y2 := hD.rz 2; have y3 := hD.rz 3; have y4 := hD.rz 4; have y5 := hD.rz 5; have y6 := hD.rz 6; have y7 := hD.rz 7; have x0 := HX0.out _ hD.rw_; have HD := Lib.hid hD; clear hD
        go_wp2_with fail
        have hD := HD.out.sd_ 1
        obtain ⟨wn, hq⟩ : ∃ wn, wn = wq.setCell ⟨w.heap.size, 4, none⟩ (.int .i64 1) := ⟨_, rfl⟩
        rw [← hq] at hD ⊢
        clear hq
        clear k0 z0 r0 y0 k1 z1 r1 y1 k2 z2 r2 y2 k3 z3 r3 y3 k4 z4 r4 y4 k5 z5 r5 y5 k6 z6 r6 y6 k7 z7 r7 y7 x0 HD
        have k0 := hD.k0; have k1 := hD.k1; have k2 := hD.k2; have k3 := hD.k3; have k4 := hD.k4; have k5 := hD.k5; have k6 := hD.k6; have k7 := hD.k7; have z0 := hD.kz 0; have z1 := hD.kz 1; have z2 := hD.kz 2; have z3 := hD.kz 3; have z4 := hD.kz 4; have z5 := hD.kz 5; have z6 := hD.kz 6; have z7 := hD.kz 7; have r0 := hD.r0; have r1 := hD.r1; have r2 := hD.r2; have r3 := hD.r3; have r4 := hD.r4; have r5 := hD.r5; have r6 := hD.r6; have r7 := hD.r7; have y0 := hD.rz 0; have y1 := hD.rz 1; have y2 := hD.rz 2; have y3 := hD.rz 3; have y4 := hD.rz 4; have y5 := hD.rz 5; have y6 := hD.rz 6; have y7 := hD.rz 7; have x0 := HX0.out _ hD.rw_; have HD := Lib.hid hD; clear hD
        refine (HW1.out _ _ HD.out).mono ?_
        rintro e wn ⟨A2, c2, rfl, hl2, hr2, hD⟩
        have HL2 := Lib.hid hl2
        have HR2 := Lib.hid hr2
        clear hl2 hr2
        clear k0 z0 r0 y0 k1 z1 r1 y1 k2 z2 r2 y2 k3 z3 r3 y3 k4 z4 r4 y4 k5 z5 r5 y5 k6 z6 r6 y6 k7 z7 r7 y7 x0 HD
        have k0 := hD.k0; have k1 := hD.k1; have k2 := hD.k2; have k3 := hD.k3; have k4 := hD.k4; have k5 := hD.k5; have k6 := hD.k6; have k7 := hD.k7; have z0 := hD.kz 0; have z1 := hD.kz 1; have z2 := hD.kz 2; have z3 := hD.kz 3; have z4 := hD.kz 4; have z5 := hD.kz 5; have z6 := hD.kz 6; have z7 := hD.kz 7; have r0 := hD.r0; have r1 := hD.r1; have r2 := hD.r2; have r3 := hD.r3; have r4 := hD.r4; have r5 := hD.r5; have r6 := hD.r6; have r7 := hD.r7; have y0 := hD.rz 0; have y1 := hD.rz 1; have y2 := hD.rz 2; have y3 := hD.rz 3; have y4 := hD.rz 4; have y5 := hD.rz 5; have y6 := hD.rz 6; have y7 := hD.rz 7; have x0 := HX0.out _ hD.rw_; have HD := Lib.hid hD; clear hD
        go_wp2_with fail
        have hD := HD.out.gr_ HR2.out HL2.out
        obtain ⟨wq, hq⟩ : ∃ wq, wq = wn.setCell ⟨w.heap.size, 2, none⟩ (.slice A2 gr2.length c2) := ⟨_, rfl⟩
        rw [← hq] at hD ⊢
        clear hq HR2 HL2
        clear k0 z0 r0 y0 k1 z1 r1 y1 k2 z2 r2 y2 k3 z3 r3 y3 k4 z4 r4 y4 k5 z5 r5 y5 k6 z6 r6 y6 k7 z7 r7 y7 x0 HD
        have k0 := hD.k0; have k1 := hD.k1; have k2 := hD.k2; have k3 := hD.k3; have k4 := hD.k4; have k5 := hD.k5; have k6 := hD.k6; have k7 := hD.k7; have z0 := hD.kz 0; have z1 := hD.kz 1; have z2 := hD.kz 2; have z3 := hD.kz 3; have z4 := hD.kz 4; have z5 := hD.kz 5; have z6 := hD.kz 6; have z7 := hD.kz 7; have r0 := hD.r0; have r1 := hD.r1; have r2 := hD.r2; have r3 := hD.r3; have r4 := hD.r4; have r5 := hD.r5; have r6 := hD.r6; have r7 := hD.r7; have y0 := hD.rz 0; have y1 := hD.rz 1; have y2 := hD.rz 2; have y3 := hD.rz 3; have y4 := hD.rz 4; have y5 := hD.rz 5; have y6 := hD.rz 6; have y7 := hD.rz 7; have x0 := HX0.out _ hD.rw_; have HD := Lib.hid hD; clear hD
        have wC : IntKind.i64.wrap (SA + (SB + X)) = SA + (SB + X) := IntWalk.i64_in _ (by omega)
        go_quiet ((go_at_call 36; first | (with_reducible exact q1_ (fun j => (HS2.out _ _ _ _ (HD.out.drewN j)).1)) | (with_reducible exact q1_ (fun j => (HS2.out _ _ _ _ (HD.out.drewN j)).2))))
        clear wC hpb
        have hD := HD.out.drewN nq
        obtain ⟨wn, hq⟩ : ∃ wn, wn = wq.drewN nq := ⟨_, rfl⟩
        rw [← hq] at hD ⊢
        clear hq
        clear k0 z0 r0 y0 k1 z1 r1 y1 k2 z2 r2 y2 k3 z3 r3 y3 k4 z4 r4 y4 k5 z5 r5 y5 k6 z6 r6 y6 k7 z7 r7 y7 x0 HD
        have k0 := hD.k0; have k1 := hD.k1; have k2 := hD.k2; have k3 := hD.k3; have k4 := hD.k4; have k5 := hD.k5; have k6 := hD.k6; have k7 := hD.k7; have z0 := hD.kz 0; have z1 := hD.kz 1; have z2 := hD.kz 2; have z3 := hD.kz 3; have z4 := hD.kz 4; have z5 := hD.kz 5; have z6 := hD.kz 6; have z7 := hD.kz 7; have r0 := hD.r0; have r1 := hD.r1; have r2 := hD.r2; have r3 := hD.r3; have r4 := hD.r4; have r5 := hD.r5; have r6 := hD.r6; have r7 := hD.r7; have y0 := hD.rz 0; have y1 := hD.rz 1; have y2 := hD.rz 2; have y3 := hD.rz 3; have y4 := hD.rz 4; have y5 := hD.rz 5; have y6 := hD.rz 6; have y7 := hD.rz 7; have x0 := HX0.out _ hD.rw_; have HD := Lib.hid hD; clear hD
        go_wp2_with fail
        refine bodyPost_ret (v := .tuple #[.agg #[.slice At th.length ct, .slice As sv.length cs', .slice A2 gr2.length c2, .int .i64 em, .int .i64 1, .int .i64 dn, .int .i64 pk, .int .i64 co], .int .i64 0]) (by simp [results, Try.f24, go_sem, k0, k1, k2, k3, k4, k5, k6, k7, r0, r1, r2, r3, r4, r5, r6, r7, y0, y1, y2, y3, y4, y5, y6, y7]) rfl ?_
        exact HD.out.done (by rw [HE.out]) (fun _ => by rw [HE.out]; exact HREL.out)
end Go.Proofs.Ytiejdbdbafmccaa
/- part ChRf6 -/
namespace Go.Proofs.Ytiejdbdbafmccaa
open Go.RowKit Go.Proofs.YtiejdbdbafmccaaW.PrintWords Go.Proofs.YtiejdbdbafmccaaW.PrintLast Go.Proofs.Ytiejdbdbafmccaa.PCh
set_option maxRecDepth 100000 in
set_option maxHeartbeats 8000000 in
theorem do_good6 {w : World} {A0 : Option Addr} {c0 : Nat} {A1 : Option Addr} {c1 : Nat} {ws cs : List Int} {cap : Int} {At : Option Addr} {ct : Nat} {As : Option Addr} {cs' : Nat} {Ag : Option Addr} {cg : Nat} {th sv gr : List Int} {em sd dn pk co : Int} {t : Nat} {x : Wk} (h : DoPre w A0 c0 A1 c1 ws cs cap At ct As cs' Ag cg th sv gr em sd dn pk co t x) (id : Nat) (hk : OkI cs.length 6 id) (hmy : mayB x cs.length 6 id = true) :
    Calls Try.prog 24 #[.slice A0 ws.length c0, .slice A1 cs.length c1, .int .i64 cap, .agg (scells At ct As cs' Ag cg th sv gr em sd dn pk co), .int .i64 6, .int .i64 (id : Int)] w (DoR w ws cs cap (t + 1) (doW x ws cs cap 6 id)) := by
  have ht := h.rt_
  have hlen := ht.len
  have hlo := ht.lo
  have hhi := ht.hi
  have hin := hk.idn
  have hi1 := hk.id0 (by decide) (by decide)
  have hcp := h.cp
  obtain ⟨b0, o0, e0, _, _⟩ := C_at h.r0 (by omega)
  obtain ⟨b1, o1, e1, _, _⟩ := C_at h.r1 (by omega)
  subst e0
  subst e1
  obtain ⟨W, hW⟩ : ∃ W, W = (w.alloc (.cells (scells At ct As cs' Ag cg th sv gr em sd dn pk co) 61)).alloc (.cells z8 61) := ⟨_, rfl⟩
  have hD := h.start hW
  obtain ⟨RD, hF⟩ := h.facts id (by omega)
  have HX0 : Hid (∀ wr, RdI w.heap.size wr (some ⟨b0, o0, none⟩) ws → wr.cell? ⟨b0, o0 + (id - 1), none⟩ = some (.int .i64 (ws.getD (id - 1) 0))) := Lib.hid fun wr hr => hr.get (by omega)
  have HW := Lib.hid (show W = (w.alloc (.cells #[.slice At th.length ct, .slice As sv.length cs', .slice Ag gr.length cg, .int .i64 em, .int .i64 sd, .int .i64 dn, .int .i64 pk, .int .i64 co] 61)).alloc (.cells #[.slice none 0 0, .slice none 0 0, .slice none 0 0, .int .i64 0, .int .i64 0, .int .i64 0, .int .i64 0, .int .i64 0] 61) from hW)
  have HDW := Lib.hid hD
  have HDN : Hid (∀ (E : Int) (wr : World), doW x ws cs cap 6 id = (x, E) → E ≠ 0 → DI w b0 o0 b1 o1 ws cs At ct As cs' Ag cg th sv gr em sd dn pk co wr → _) := Lib.hid fun E wr hE h0 (hr : DI w b0 o0 b1 o1 ws cs At ct As cs' Ag cg th sv gr em sd dn pk co wr) => hr.done (cap := cap) (t := t + 1) (R := doW x ws cs cap 6 id) (E := E) (by rw [hE]) (fun hh => absurd (by rw [hE] at hh; exact hh) h0)
  have HRD := Lib.hid hF.rd
  have hrdy := hF.rdy hi1
  have HGR : Hid (∀ wr, DI w b0 o0 b1 o1 ws cs At ct As cs' Ag cg th sv gr em sd dn pk co wr → Calls Try.prog 35 #[.slice Ag gr.length cg, .int .i64 (id : Int)] wr fun e w' => e = .returned (.bool (x.gr id)) ∧ Drawn0 wr w') := Lib.hid fun wr hr => by
    have q := (hF.has (id : Int) wr hr).2.2
    rw [show decide ((id : Int) ∈ gr) = x.gr id from h.rel.gr.has id hi1 hin] at q
    exact q
  have sa := hF.sa
  have sb := hF.sb
  have sw := hF.sw
  have swd := hF.wd
  have hl3 := hF.l3
  have hpkw := h.rel.pkw
  have hpk : pk = x.pk := h.rel.pk
  have hdn : dn = x.dn := h.rel.dn
  have hbd := h.bd.dn
  have htt := h.tt
  have hmb : mayB x cs.length 6 id = (x.gr id && (rdyB x id && decide ((id : Int) = (cs.length : Int) - x.dn))) := rfl
  rw [← hdn] at hmb hbd
  rw [hrdy] at hmb
  have HWN : Hid (wrap64 ((cs.length : Int) - dn) = (cs.length : Int) - dn) := wr64 (by omega) (by omega)
  have HWI : Hid (wrap64 ((id : Int) - 1) = (id : Int) - 1) := wr64 (by omega) (by omega)
  have HWD : Hid (wrap64 (dn + 1) = dn + 1) := wr64 (by omega) (by omega)
  have i1 : (1 : Int) ≤ (id : Int) := by omega
  have i2 : (id : Int) ≤ 64 := by omega
  have i4 : (0 : Int) ≤ (id : Int) - 1 := by omega
  have i5 : (id : Int) - 1 < (ws.length : Int) := by omega
  have i6 : ((id : Int) - 1).toNat = id - 1 := by omega
  have j1 : 0 ≤ dn := by omega
  have j2 : dn ≤ 200000 := by omega
  have j3 : (cs.length : Int) ≤ 64 := by omega
  have hmy2 := hmy
  rw [hmb] at hmy2
  simp only [Bool.and_eq_true, decide_eq_true_eq] at hmy2
  obtain ⟨g1, g2, g3⟩ := hmy2
  have hqb : ((id : Int) != (cs.length : Int) - dn) = false := by simpa using g3
  have hcap := h.rel.cap_gr id hi1 hin g1
  rw [g1] at HGR
  obtain ⟨mo, hmo2⟩ : ∃ mo : Int, mo = if 1 < id then ws.getD (id - 1) 0 else 0 := ⟨_, rfl⟩
  have hmo : moreI ws cs.length 6 id = mo := by rw [hmo2]; rfl
  have sx := ws_bd ht (id - 1)
  have HE1 : Hid (cap < x.wd + mo → doW x ws cs cap 6 id = (x, 25)) := Lib.hid fun hn => by unfold doW; rw [if_neg (by rw [hmy]; decide), hmo, if_pos hn]
  have HE0 : Hid (¬ cap < x.wd + mo → doW x ws cs cap 6 id = (effW (addW x mo) ws cs 6 id, 0)) := Lib.hid fun hn => by unfold doW; rw [if_neg (by rw [hmy]; decide), hmo, if_neg hn]
  have HSM : Hid (∀ wr, DI w b0 o0 b1 o1 ws cs At ct As cs' Ag cg th sv gr em sd dn pk co wr → _) := Lib.hid fun wr (hr : DI w b0 o0 b1 o1 ws cs At ct As cs' Ag cg th sv gr em sd dn pk co wr) => h.sum hr (by omega) (fun i hi => by have := (h.rel.th i).1 hi; omega) (fun i hi => by have := (h.rel.gr i).1 hi; omega)
  have s0 : sumL ws th + sumL ws gr ≤ 26214400000 := by omega
  by_cases hi : id = 1
  · have hib : ((id : Int) == 1) = true := by simp; omega
    have hni : ¬ (1 : Int) < (id : Int) := by omega
    have hnd : ¬ 1 < id := by omega
    rw [if_neg hnd] at hmo2
    subst hmo2
    have HE := Lib.hid (HE0.out (by omega))
    have hrel := h.rel.back ht id hi1 hin g1 0 (by rw [if_neg hnd]) (by omega)
    rw [if_neg hnd] at hrel
    simp only at hrel
    have hle : sumL ws th + sumL ws gr ≤ pk := by omega
    rw [show max pk (x.wd + 0) = pk by omega] at hrel
    obtain ⟨gr3, hgr3⟩ : ∃ l, l = wo gr (id : Int) := ⟨_, rfl⟩
    rw [← hgr3] at hrel
    have HREL := Lib.hid hrel
    have HS2 : Hid (∀ v wr, DI w b0 o0 b1 o1 ws cs At ct As cs' Ag cg th sv gr em sd v pk co wr → _) := Lib.hid fun v wr (hr : DI w b0 o0 b1 o1 ws cs At ct As cs' Ag cg th sv gr em sd v pk co wr) => h.sum hr (by omega) (fun i hi => by have := (h.rel.th i).1 hi; omega) (fun i hi => by have := (h.rel.gr i).1 hi; omega)
    have HW2 : Hid (∀ v wr, DI w b0 o0 b1 o1 ws cs At ct As cs' Ag cg th sv gr em sd v pk co wr → Calls Try.prog 38 #[.slice Ag gr.length cg, .int .i64 (id : Int)] wr (NewR w b0 o0 b1 o1 ws cs At ct As cs' Ag cg th sv gr em sd v pk co gr3)) := Lib.hid fun v wr hr => by rw [hgr3]; exact hr.withoutC _ hr.rg hr.lg (by omega)
    clear hi hnd hrel hgr3 hmy hmb hF h ht hD hW hlen sw hpk hrdy htt hdn g1 g2 g3 hcap hpkw swd hmo HE1 HE0 HSM HDN
    generalize sumL ws th = SA at *
    generalize sumL ws gr = SB at *
    have hpb : decide (pk < SA + SB) = false := decide_eq_false (by omega)
    have hwn := HWN.out
    go_enter Try.func24, Try.ntmps24
    simp only [scells]
    go_upto_region 2 with (fail)
    rw [← HW.out]
    have hD := HDW.out
    have k0 := hD.k0; have k1 := hD.k1; have k2 := hD.k2; have k3 := hD.k3; have k4 := hD.k4; have k5 := hD.k5; have k6 := hD.k6; have k7 := hD.k7; have z0 := hD.kz 0; have z1 := hD.kz 1; have z2 := hD.kz 2; have z3 := hD.kz 3; have z4 := hD.kz 4; have z5 := hD.kz 5; have z6 := hD.kz 6; have z7 := hD.kz 7; have r0 := hD.r0; have r1 := hD.r1; have r2 := hD.r2; have r3 := hD.r3; have r4 := hD.r4; have r5 := hD.r5; have r6 := hD.r6; have r7 := hD.r7; have y0 := hD.rz 0; have y1 := hD.rz 1; have y2 := hD.rz 2; have y3 := hD.rz 3; have y4 := hD.rz 4; have y5 := hD.rz 5; have y6 := hD.rz 6; have y7 := hD.rz 7; have x0 := HX0.out _ hD.rw_; have HD := Lib.hid hD; clear hD
    go_wp2_with (go_at_call 35; first | ((with_reducible refine (HRD.out _ HD.out).mono ?_); (rintro e wn ⟨rfl, hdr⟩; have hD := HD.out.below hdr.below; clear k0 z0 r0 y0 k1 z1 r1 y1 k2 z2 r2 y2 k3 z3 r3 y3 k4 z4 r4 y4 k5 z5 r5 y5 k6 z6 r6 y6 k7 z7 r7 y7 x0 HD; have k0 := hD.k0; have k1 := hD.k1; have k2 := hD.k2; have k3 := hD.k3; have k4 := hD.k4; have k5 := hD.k5; have k6 := hD.k6; have k7 := hD.k7; have z0 := hD.kz 0; have z1 := hD.kz 1; have z2 := hD.kz 2; have z3 := hD.kz 3; have z4 := hD.kz 4; have z5 := hD.kz 5; have z6 := hD.kz 6; have z7 := hD.kz 7; have r0 := hD.r0; have r1 := hD.r1; have r2 := hD.r2; have r3 := hD.r3; have r4 := hD.r4; have r5 := hD.r5; have r6 := hD.r6; have r7 := hD.r7; have y0 := hD.rz 0; have y1 := hD.rz 1; have y2 := hD.rz 2; have y3 := hD.rz 3; have y4 := hD.rz 4; have y5 := hD.rz 5; have y6 := hD.rz 6; have y7 := hD.rz 7; have x0 := HX0.out _ hD.rw_; have HD := Lib.hid hD; clear hD; clear hdr)) | ((with_reducible refine (HGR.out _ HD.out).mono ?_); (rintro e wn ⟨rfl, hdr⟩; have hD := HD.out.below hdr.below; clear k0 z0 r0 y0 k1 z1 r1 y1 k2 z2 r2 y2 k3 z3 r3 y3 k4 z4 r4 y4 k5 z5 r5 y5 k6 z6 r6 y6 k7 z7 r7 y7 x0 HD; have k0 := hD.k0; have k1 := hD.k1; have k2 := hD.k2; have k3 := hD.k3; have k4 := hD.k4; have k5 := hD.k5; have k6 := hD.k6; have k7 := hD.k7; have z0 := hD.kz 0; have z1 := hD.kz 1; have z2 := hD.kz 2; have z3 := hD.kz 3; have z4 := hD.kz 4; have z5 := hD.kz 5; have z6 := hD.kz 6; have z7 := hD.kz 7; have r0 := hD.r0; have r1 := hD.r1; have r2 := hD.r2; have r3 := hD.r3; have r4 := hD.r4; have r5 := hD.r5; have r6 := hD.r6; have r7 := hD.r7; have y0 := hD.rz 0; have y1 := hD.rz 1; have y2 := hD.rz 2; have y3 := hD.rz 3; have y4 := hD.rz 4; have y5 := hD.rz 5; have y6 := hD.rz 6; have y7 := hD.rz 7; have x0 := HX0.out _ hD.rw_; have HD := Lib.hid hD; clear hD; clear hdr)))
    (try clear hwn)
    have hD := HD.out.dn_ (dn + 1)
    obtain ⟨wq, hq⟩ : ∃ wq, wq = wn.setCell ⟨w.heap.size, 5, none⟩ (.int .i64 (dn + 1)) := ⟨_, rfl⟩
    rw [← hq] at hD ⊢
    clear hq
    clear k0 z0 r0 y0 k1 z1 r1 y1 k2 z2 r2 y2 k3 z3 r3 y3 k4 z4 r4 y4 k5 z5 r5 y5 k6 z6 r6 y6 k7 z7 r7 y7 x0 HD
    have k0 := hD.k0; have k1 := hD.k1; have k2 := hD.k2; have k3 := hD.k3; have k4 := hD.k4; have k5 := hD.k5; have k6 := hD.k6; have k7 := hD.k7; have z0 := hD.kz 0; have z1 := hD.kz 1; have z2 := hD.kz 2; have z3 := hD.kz 3; have z4 := hD.kz 4; have z5 := hD.kz 5; have z6 := hD.kz 6; have z7 := hD.kz 7; have r0 := hD.r0; have r1 := hD.r1; have r2 := hD.r2; have r3 := hD.r3; have r4 := hD.r4; have r5 := hD.r5; have r6 := hD.r6; have r7 := hD.r7; have y0 := hD.rz 0; have y1 := hD.rz 1; have y2 := hD.rz 2; have y3 := hD.rz 3; have y4 := hD.rz 4; have y5 := hD.rz 5; have y6 := hD.rz 6; have y7 := hD.rz 7; have x0 := HX0.out _ hD.rw_; have HD := Lib.hid hD; clear hD
    have wC : IntKind.i64.wrap (SA + SB) = SA + SB := IntWalk.i64_in _ (by omega)
    go_quiet ((go_at_call 36; first | (with_reducible exact q1_ (fun j => (HS2.out _ _ (HD.out.drewN j)).1)) | (with_reducible exact q1_ (fun j => (HS2.out _ _ (HD.out.drewN j)).2))))
    clear wC hpb
    have hD := HD.out.drewN nq
    obtain ⟨wn, hq⟩ : ∃ wn, wn = wq.drewN nq := ⟨_, rfl⟩
    rw [← hq] at hD ⊢
    clear hq
    clear k0 z0 r0 y0 k1 z1 r1 y1 k2 z2 r2 y2 k3 z3 r3 y3 k4 z4 r4 y4 k5 z5 r5 y5 k6 z6 r6 y6 k7 z7 r7 y7 x0 HD
    have k0 := hD.k0; have k1 := hD.k1; have k2 := hD.k2; have k3 := hD.k3; have k4 := hD.k4; have k5 := hD.k5; have k6 := hD.k6; have k7 := hD.k7; have z0 := hD.kz 0; have z1 := hD.kz 1; have z2 := hD.kz 2; have z3 := hD.kz 3; have z4 := hD.kz 4; have z5 := hD.kz 5; have z6 := hD.kz 6; have z7 := hD.kz 7; have r0 := hD.r0; have r1 := hD.r1; have r2 := hD.r2; have r3 := hD.r3; have r4 := hD.r4; have r5 := hD.r5; have r6 := hD.r6; have r7 := hD.r7; have y0 := hD.rz 0; have y1 := hD.rz 1; have y2 := hD.rz 2; have y3 := hD.rz 3; have y4 := hD.rz 4; have y5 := hD.rz 5; have y6 := hD.rz 6; have y7 := hD.rz 7; have x0 := HX0.out _ hD.rw_; have HD := Lib.hid hD; clear hD
    go_wp2_with fail
    refine (HW2.out _ _ HD.out).mono ?_
    rintro e wn ⟨A3, c3, rfl, hl3', hr3, hD⟩
    have HLX := Lib.hid hl3'
    have HR3 := Lib.hid hr3
    clear hl3' hr3
    clear k0 z0 r0 y0 k1 z1 r1 y1 k2 z2 r2 y2 k3 z3 r3 y3 k4 z4 r4 y4 k5 z5 r5 y5 k6 z6 r6 y6 k7 z7 r7 y7 x0 HD
    have k0 := hD.k0; have k1 := hD.k1; have k2 := hD.k2; have k3 := hD.k3; have k4 := hD.k4; have k5 := hD.k5; have k6 := hD.k6; have k7 := hD.k7; have z0 := hD.kz 0; have z1 := hD.kz 1; have z2 := hD.kz 2; have z3 := hD.kz 3; have z4 := hD.kz 4; have z5 := hD.kz 5; have z6 := hD.kz 6; have z7 := hD.kz 7; have r0 := hD.r0; have r1 := hD.r1; have r2 := hD.r2; have r3 := hD.r3; have r4 := hD.r4; have r5 := hD.r5; have r6 := hD.r6; have r7 := hD.r7; have y0 := hD.rz 0; have y1 := hD.rz 1; have y2 := hD.rz 2; have y3 := hD.rz 3; have y4 := hD.rz 4; have y5 := hD.rz 5; have y6 := hD.rz 6; have y7 := hD.rz 7; have x0 := HX0.out _ hD.rw_; have HD := Lib.hid hD; clear hD
    go_wp2_with fail
    have hD := HD.out.gr_ HR3.out HLX.out
    obtain ⟨wq, hq⟩ : ∃ wq, wq = wn.setCell ⟨w.heap.size, 2, none⟩ (.slice A3 gr3.length c3) := ⟨_, rfl⟩
    rw [← hq] at hD ⊢
    clear hq HR3 HLX
    clear k0 z0 r0 y0 k1 z1 r1 y1 k2 z2 r2 y2 k3 z3 r3 y3 k4 z4 r4 y4 k5 z5 r5 y5 k6 z6 r6 y6 k7 z7 r7 y7 x0 HD
    have k0 := hD.k0; have k1 := hD.k1; have k2 := hD.k2; have k3 := hD.k3; have k4 := hD.k4; have k5 := hD.k5; have k6 := hD.k6; have k7 := hD.k7; have z0 := hD.kz 0; have z1 := hD.kz 1; have z2 := hD.kz 2; have z3 := hD.kz 3; have z4 := hD.kz 4; have z5 := hD.kz 5; have z6 := hD.kz 6; have z7 := hD.kz 7; have r0 := hD.r0; have r1 := hD.r1; have r2 := hD.r2; have r3 := hD.r3; have r4 := hD.r4; have r5 := hD.r5; have r6 := hD.r6; have r7 := hD.r7; have y0 := hD.rz 0; have y1 := hD.rz 1; have y2 := hD.rz 2; have y3 := hD.rz 3; have y4 := hD.rz 4; have y5 := hD.rz 5; have y6 := hD.rz 6; have y7 := hD.rz 7; have x0 := HX0.out _ hD.rw_; have HD := Lib.hid hD; clear hD
    refine bodyPost_ret (v := .tuple #[.agg #[.slice At th.length ct, .slice As sv.length cs', .slice A3 gr3.length c3, .int .i64 em, .int .i64 sd, .int .i64 (dn + 1), .int .i64 pk, .int .i64 co], .int .i64 0]) (by simp [results, Try.f24, go_sem, k0, k1, k2, k3, k4, k5, k6, k7, r0, r1, r2, r3, r4, r5, r6, r7, y0, y1, y2, y3, y4, y5, y6, y7]) rfl ?_
    exact HD.out.done (by rw [HE.out]) (fun _ => by rw [HE.out]; exact HREL.out)
  · have hib : ((id : Int) == 1) = false := by simp; omega
    have hni : (1 : Int) < (id : Int) := by omega
    have hnd : 1 < id := by omega
    have hrd1 : RD = true := by
      rw [decide_eq_false hi, Bool.false_or] at g2
      exact g2
    subst hrd1
    rw [if_pos hnd] at hmo2
    by_cases hc : cap < x.wd + mo
    · have HE := Lib.hid (HE1.out hc)
      rw [hmo2] at hc
      have hc2 : cap < sumL ws th + sumL ws gr + ws.getD (id - 1) 0 := by omega
      clear hmo2 HE1 HE0 hmo hmy hmb hF h ht hD hW hlen sw hpk hrdy htt hdn g1 g2 g3 hcap hpkw swd hc hi hnd
      generalize sumL ws th = SA at *
      generalize sumL ws gr = SB at *
      generalize ws.getD (id - 1) 0 = X at *
      have hcb : decide (cap < SA + SB + X) = true := decide_eq_true hc2
      clear hc2
      have hwn := HWN.out
      go_enter Try.func24, Try.ntmps24
      simp only [scells]
      go_upto_region 2 with (fail)
      rw [← HW.out]
      have hD := HDW.out
      have k0 := hD.k0; have k1 := hD.k1; have k2 := hD.k2; have k3 := hD.k3; have k4 := hD.k4; have k5 := hD.k5; have k6 := hD.k6; have k7 := hD.k7; have z0 := hD.kz 0; have z1 := hD.kz 1; have z2 := hD.kz 2; have z3 := hD.kz 3; have z4 := hD.kz 4; have z5 := hD.kz 5; have z6 := hD.kz 6; have z7 := hD.kz 7; have r0 := hD.r0; have r1 := hD.r1; have r2 := hD.r2; have r3 := hD.r3; have r4 := hD.r4; have r5 := hD.r5; have r6 := hD.r6; have r7 := hD.r7; have y0 := hD.rz 0; have y1 := hD.rz 1; have y2 := hD.rz 2; have y3 := hD.rz 3; have y4 := hD.rz 4; have y5 := hD.rz 5; have y6 := hD.rz 6; have y7 := hD.rz 7; have x0 := HX0.out _ hD.rw_; have HD := Lib.hid hD; clear hD
      go_wp2_with (go_at_call 35; first | ((with_reducible refine (HRD.out _ HD.out).mono ?_); (rintro e wn ⟨rfl, hdr⟩; have hD := HD.out.below hdr.below; clear k0 z0 r0 y0 k1 z1 r1 y1 k2 z2 r2 y2 k3 z3 r3 y3 k4 z4 r4 y4 k5 z5 r5 y5 k6 z6 r6 y6 k7 z7 r7 y7 x0 HD; have k0 := hD.k0; have k1 := hD.k1; have k2 := hD.k2; have k3 := hD.k3; have k4 := hD.k4; have k5 := hD.k5; have k6 := hD.k6; have k7 := hD.k7; have z0 := hD.kz 0; have z1 := hD.kz 1; have z2 := hD.kz 2; have z3 := hD.kz 3; have z4 := hD.kz 4; have z5 := hD.kz 5; have z6 := hD.kz 6; have z7 := hD.kz 7; have r0 := hD.r0; have r1 := hD.r1; have r2 := hD.r2; have r3 := hD.r3; have r4 := hD.r4; have r5 := hD.r5; have r6 := hD.r6; have r7 := hD.r7; have y0 := hD.rz 0; have y1 := hD.rz 1; have y2 := hD.rz 2; have y3 := hD.rz 3; have y4 := hD.rz 4; have y5 := hD.rz 5; have y6 := hD.rz 6; have y7 := hD.rz 7; have x0 := HX0.out _ hD.rw_; have HD := Lib.hid hD; clear hD; clear hdr)) | ((with_reducible refine (HGR.out _ HD.out).mono ?_); (rintro e wn ⟨rfl, hdr⟩; have hD := HD.out.below hdr.below; clear k0 z0 r0 y0 k1 z1 r1 y1 k2 z2 r2 y2 k3 z3 r3 y3 k4 z4 r4 y4 k5 z5 r5 y5 k6 z6 r6 y6 k7 z7 r7 y7 x0 HD; have k0 := hD.k0; have k1 := hD.k1; have k2 := hD.k2; have k3 := hD.k3; have k4 := hD.k4; have k5 := hD.k5; have k6 := hD.k6; have k7 := hD.k7; have z0 := hD.kz 0; have z1 := hD.kz 1; have z2 := hD.kz 2; have z3 := hD.kz 3; have z4 := hD.kz 4; have z5 := hD.kz 5; have z6 := hD.kz 6; have z7 := hD.kz 7; have r0 := hD.r0; have r1 := hD.r1; have r2 := hD.r2; have r3 := hD.r3; have r4 := hD.r4; have r5 := hD.r5; have r6 := hD.r6; have r7 := hD.r7; have y0 := hD.rz 0; have y1 := hD.rz 1; have y2 := hD.rz 2; have y3 := hD.rz 3; have y4 := hD.rz 4; have y5 := hD.rz 5; have y6 := hD.rz 6; have y7 := hD.rz 7; have x0 := HX0.out _ hD.rw_; have HD := Lib.hid hD; clear hD; clear hdr)))
      (try clear hwn)
      have wA : IntKind.i64.wrap (SA + SB) = SA + SB := IntWalk.i64_in _ (by omega)
      have wB : IntKind.i64.wrap (SA + SB + X) = SA + SB + X := IntWalk.i64_in _ (by omega)
      have hwi := HWI.out
      go_quiet ((go_at_call 36; first | (with_reducible exact q1_ (fun j => (HSM.out _ (HD.out.drewN j)).1)) | (with_reducible exact q1_ (fun j => (HSM.out _ (HD.out.drewN j)).2))))
      clear wA wB hwi
      go_wp2_with fail
      refine bodyPost_ret (v := .tuple #[.agg #[.slice At th.length ct, .slice As sv.length cs', .slice Ag gr.length cg, .int .i64 em, .int .i64 sd, .int .i64 dn, .int .i64 pk, .int .i64 co], .int .i64 25]) (by simp [results, Try.f24, go_sem, k0, k1, k2, k3, k4, k5, k6, k7, r0, r1, r2, r3, r4, r5, r6, r7, y0, y1, y2, y3, y4, y5, y6, y7]) rfl ?_
      exact HDN.out _ _ HE.out (by decide) (HD.out.drewN _)
    · have HE := Lib.hid (HE0.out hc)
      have hrel := h.rel.back ht id hi1 hin g1 mo (by rw [if_pos hnd]; exact hmo2) (by omega)
      rw [if_pos hnd] at hrel
      simp only at hrel
      rw [hmo2] at hrel hc HE
      obtain ⟨gr2, hgr2⟩ : ∃ l, l = gr ++ [(id : Int) - 1] := ⟨_, rfl⟩
      obtain ⟨gr3, hgr3⟩ : ∃ l, l = wo gr2 (id : Int) := ⟨_, rfl⟩
      rw [← hgr2] at hrel
      rw [← hgr3] at hrel
      have hsum : sumL ws gr2 = sumL ws gr + ws.getD (id - 1) 0 := by rw [hgr2, sumL_app, sumL_cons, sumL_nil, i6]; omega
      have hlg2 : gr2.length = gr.length + 1 := by rw [hgr2]; simp
      have HS2 : Hid (∀ A2 c2 v p wr, DI w b0 o0 b1 o1 ws cs At ct As cs' A2 c2 th sv gr2 em sd v p co wr → _) := Lib.hid fun A2 c2 v p wr (hr : DI w b0 o0 b1 o1 ws cs At ct As cs' A2 c2 th sv gr2 em sd v p co wr) => h.sum hr (by omega) (fun i hi => by have := (h.rel.th i).1 hi; omega) (fun i hi => by
        rw [hgr2, List.mem_append, List.mem_singleton] at hi
        rcases hi with hi | hi
        · have := (h.rel.gr i).1 hi; omega
        · omega)
      have HW1 : Hid (∀ wr, DI w b0 o0 b1 o1 ws cs At ct As cs' Ag cg th sv gr em sd dn pk co wr → Calls Try.prog 37 #[.slice Ag gr.length cg, .int .i64 ((id : Int) - 1)] wr (NewR w b0 o0 b1 o1 ws cs At ct As cs' Ag cg th sv gr em sd dn pk co gr2)) := Lib.hid fun wr hr => by rw [hgr2]; exact hr.withC _ hr.rg hr.lg (by omega)
      have HW2 : Hid (∀ A2 c2 v p wr, DI w b0 o0 b1 o1 ws cs At ct As cs' A2 c2 th sv gr2 em sd v p co wr → Calls Try.prog 38 #[.slice A2 gr2.length c2, .int .i64 (id : Int)] wr (NewR w b0 o0 b1 o1 ws cs At ct As cs' A2 c2 th sv gr2 em sd v p co gr3)) := Lib.hid fun A2 c2 v p wr hr => by rw [hgr3]; exact hr.withoutC _ hr.rg hr.lg (by omega)
      rw [hsum] at HS2
      rw [← sw] at hrel hc
      clear hi hnd hgr2 hgr3 hmo2 hmo hmy hmb hF h ht hD hW hlen sw hpk hrdy htt hdn g1 g2 g3 hcap hpkw swd HE1 HE0 HDN hsum hlg2
      generalize sumL ws th = SA at *
      generalize sumL ws gr = SB at *
      generalize ws.getD (id - 1) 0 = X at *
      have hcb : decide (cap < SA + SB + X) = false := decide_eq_false hc
      clear hc
      by_cases hp : pk < SA + (SB + X)
      · have hpb : decide (pk < SA + (SB + X)) = true := by simp; omega
        rw [show max pk (SA + SB + X) = (SA + (SB + X)) by omega] at hrel
        have HREL := Lib.hid hrel
        clear hrel hp
        have hwn := HWN.out
        go_enter Try.func24, Try.ntmps24
        simp only [scells]
        go_upto_region 2 with (fail)
        rw [← HW.out]
        have hD := HDW.out
        have k0 := hD.k0; have k1 := hD.k1; have k2 := hD.k2; have k3 := hD.k3; have k4 := hD.k4; have k5 := hD.k5; have k6 := hD.k6; have k7 := hD.k7; have z0 := hD.kz 0; have z1 := hD.kz 1; have z2 := hD.kz 2; have z3 := hD.kz 3; have z4 := hD.kz 4; have z5 := hD.kz 5; have z6 := hD.kz 6; have z7 := hD.kz 7; have r0 := hD.r0; have r1 := hD.r1; have r2 := hD.r2; have r3 := hD.r3; have r4 := hD.r4; have r5 := hD.r5; have r6 := hD.r6; have r7 := hD.r7; have y0 := hD.rz 0; have y1 := hD.rz 1; have y2 := hD.rz 2; have y3 := hD.rz 3; have y4 := hD.rz 4; have y5 := hD.rz 5; have y6 := hD.rz 6; have y7 := hD.rz 7; have x0 := HX0.out _ hD.rw_; have HD := Lib.hid hD; clear hD
        go_wp2_with (go_at_call 35; first | ((with_reducible refine (HRD.out _ HD.out).mono ?_); (rintro e wn ⟨rfl, hdr⟩; have hD := HD.out.below hdr.below; clear k0 z0 r0 y0 k1 z1 r1 y1 k2 z2 r2 y2 k3 z3 r3 y3 k4 z4 r4 y4 k5 z5 r5 y5 k6 z6 r6 y6 k7 z7 r7 y7 x0 HD; have k0 := hD.k0; have k1 := hD.k1; have k2 := hD.k2; have k3 := hD.k3; have k4 := hD.k4; have k5 := hD.k5; have k6 := hD.k6; have k7 := hD.k7; have z0 := hD.kz 0; have z1 := hD.kz 1; have z2 := hD.kz 2; have z3 := hD.kz 3; have z4 := hD.kz 4; have z5 := hD.kz 5; have z6 := hD.kz 6; have z7 := hD.kz 7; have r0 := hD.r0; have r1 := hD.r1; have r2 := hD.r2; have r3 := hD.r3; have r4 := hD.r4; have r5 := hD.r5; have r6 := hD.r6; have r7 := hD.r7; have y0 := hD.rz 0; have y1 := hD.rz 1; have y2 := hD.rz 2; have y3 := hD.rz 3; have y4 := hD.rz 4; have y5 := hD.rz 5; have y6 := hD.rz 6; have y7 := hD.rz 7; have x0 := HX0.out _ hD.rw_; have HD := Lib.hid hD; clear hD; clear hdr)) | ((with_reducible refine (HGR.out _ HD.out).mono ?_); (rintro e wn ⟨rfl, hdr⟩; have hD := HD.out.below hdr.below; clear k0 z0 r0 y0 k1 z1 r1 y1 k2 z2 r2 y2 k3 z3 r3 y3 k4 z4 r4 y4 k5 z5 r5 y5 k6 z6 r6 y6 k7 z7 r7 y7 x0 HD; have k0 := hD.k0; have k1 := hD.k1; have k2 := hD.k2; have k3 := hD.k3; have k4 := hD.k4; have k5 := hD.k5; have k6 := hD.k6; have k7 := hD.k7; have z0 := hD.kz 0; have z1 := hD.kz 1; have z2 := hD.kz 2; have z3 := hD.kz 3; have z4 := hD.kz 4; have z5 := hD.kz 5; have z6 := hD.kz 6; have z7 := hD.kz 7; have r0 := hD.r0; have r1 := hD.r1; have r2 := hD.r2; have r3 := hD.r3; have r4 := hD.r4; have r5 := hD.r5; have r6 := hD.r6; have r7 := hD.r7; have y0 := hD.rz 0; have y1 := hD.rz 1; have y2 := hD.rz 2; have y3 := hD.rz 3; have y4 := hD.rz 4; have y5 := hD.rz 5; have y6 := hD.rz 6; have y7 := hD.rz 7; have x0 := HX0.out _ hD.rw_; have HD := Lib.hid hD; clear hD; clear hdr)))
        (try clear hwn)
        have wA : IntKind.i64.wrap (SA + SB) = SA + SB := IntWalk.i64_in _ (by omega)
        have wB : IntKind.i64.wrap (SA + SB + X) = SA + SB + X := IntWalk.i64_in _ (by omega)
        have hwi := HWI.out
        go_quiet ((go_at_call 36; first | (with_reducible exact q1_ (fun j => (HSM.out _ (HD.out.drewN j)).1)) | (with_reducible exact q1_ (fun j => (HSM.out _ (HD.out.drewN j)).2))))
        clear wA wB hcb hwi
        have hD := HD.out.drewN nq
        obtain ⟨wq, hq⟩ : ∃ wq, wq = wn.drewN nq := ⟨_, rfl⟩
        rw [← hq] at hD ⊢
        clear hq
        clear k0 z0 r0 y0 k1 z1 r1 y1 k2 z2 r2 y2 k3 z3 r3 y3 k4 z4 r4 y4 k5 z5 r5 y5 k6 z6 r6 y6 k7 z7 r7 y7 x0 HD
        have k0 := hD.k0; have k1 := hD.k1; have k2 := hD.k2; have k3 := hD.k3; have k4 := hD.k4; have k5 := hD.k5; have k6 := hD.k6; have k7 := hD.k7; have z0 := hD.kz 0; have z1 := hD.kz 1; have z2 := hD.kz 2; have z3 := hD.kz 3; have z4 := hD.kz 4; have z5 := hD.kz 5; have z6 := hD.kz 6; have z7 := hD.kz 7; have r0 := hD.r0; have r1 := hD.r1; have r2 := hD.r2; have r3 := hD.r3; have r4 := hD.r4; have r5 := hD.r5; have r6 := hD.r6; have r7 := hD.r7; have y0 := hD.rz 0; have y1 := hD.rz 1; have y2 := hD.rz 2; have y3 := hD.rz 3; have y4 := hD.rz 4; have y5 := hD.rz 5; have y6 := hD.rz 6; have y7 := hD.rz 7; have x0 := HX0.out _ hD.rw_; have HD := Lib.hid hD; clear hD
        go_wp2_with fail
        refine (HW1.out _ HD.out).mono ?_
        rintro e wn ⟨A2, c2, rfl, hl2, hr2, hD⟩
        have HL2 := Lib.hid hl2
        have HR2 := Lib.hid hr2
        clear hl2 hr2
        clear k0 z0 r0 y0 k1 z1 r1 y1 k2 z2 r2 y2 k3 z3 r3 y3 k4 z4 r4 y4 k5 z5 r5 y5 k6 z6 r6 y6 k7 z7 r7 y7 x0 HD
        have k0 := hD.k0; have k1 := hD.k1; have k2 := hD.k2; have k3 := hD.k3; have k4 := hD.k4; have k5 := hD.k5; have k6 := hD.k6; have k7 := hD.k7; have z0 := hD.kz 0; have z1 := hD.kz 1; have z2 := hD.kz 2; have z3 := hD.kz 3; have z4 := hD.kz 4; have z5 := hD.kz 5; have z6 := hD.kz 6; have z7 := hD.kz 7; have r0 := hD.r0; have r1 := hD.r1; have r2 := hD.r2; have r3 := hD.r3; have r4 := hD.r4; have r5 := hD.r5; have r6 := hD.r6; have r7 := hD.r7; have y0 := hD.rz 0; have y1 := hD.rz 1; have y2 := hD.rz 2; have y3 := hD.rz 3; have y4 := hD.rz 4; have y5 := hD.rz 5; have y6 := hD.rz 6; have y7 := hD.rz 7; have x0 := HX0.out _ hD.rw_; have HD := Lib.hid hD; clear hD
        go_wp2_with fail
        have hD := HD.out.gr_ HR2.out HL2.out
        obtain ⟨wq, hq⟩ : ∃ wq, wq = wn.setCell ⟨w.heap.size, 2, none⟩ (.slice A2 gr2.length c2) := ⟨_, rfl⟩
        rw [← hq] at hD ⊢
        clear hq HR2 HL2
        clear k0 z0 r0 y0 k1 z1 r1 y1 k2 z2 r2 y2 k3 z3 r3 y3 k4 z4 r4 y4 k5 z5 r5 y5 k6 z6 r6 y6 k7 z7 r7 y7 x0 HD
        have k0 := hD.k0; have k1 := hD.k1; have k2 := hD.k2; have k3 := hD.k3; have k4 := hD.k4; have k5 := hD.k5; have k6 := hD.k6; have k7 := hD.k7; have z0 := hD.kz 0; have z1 := hD.kz 1; have z2 := hD.kz 2; have z3 := hD.kz 3; have z4 := hD.kz 4; have z5 := hD.kz 5; have z6 := hD.kz 6; have z7 := hD.kz 7; have r0 := hD.r0; have r1 := hD.r1; have r2 := hD.r2; have r3 := hD.r3; have r4 := hD.r4; have r5 := hD.r5; have r6 := hD.r6; have r7 := hD.r7; have y0 := hD.rz 0; have y1 := hD.rz 1; have y2 := hD.rz 2; have y3 := hD.rz 3; have y4 := hD.rz 4; have y5 := hD.rz 5; have y6 := hD.rz 6; have y7 := hD.rz 7; have x0 := HX0.out _ hD.rw_; have HD := Lib.hid hD; clear hD
        go_wp2_with fail
        have hD := HD.out.dn_ (dn + 1)
        obtain ⟨wn, hq⟩ : ∃ wn, wn = wq.setCell ⟨w.heap.size, 5, none⟩ (.int .i64 (dn + 1)) := ⟨_, rfl⟩
        rw [← hq] at hD ⊢
        clear hq
        clear k0 z0 r0 y0 k1 z1 r1 y1 k2 z2 r2 y2 k3 z3 r3 y3 k4 z4 r4 y4 k5 z5 r5 y5 k6 z6 r6 y6 k7 z7 r7 y7 x0 HD
        have k0 := hD.k0; have k1 := hD.k1; have k2 := hD.k2; have k3 := hD.k3; have k4 := hD.k4; have k5 := hD.k5; have k6 := hD.k6; have k7 := hD.k7; have z0 := hD.kz 0; have z1 := hD.kz 1; have z2 := hD.kz 2; have z3 := hD.kz 3; have z4 := hD.kz 4; have z5 := hD.kz 5; have z6 := hD.kz 6; have z7 := hD.kz 7; have r0 := hD.r0; have r1 := hD.r1; have r2 := hD.r2; have r3 := hD.r3; have r4 := hD.r4; have r5 := hD.r5; have r6 := hD.r6; have r7 := hD.r7; have y0 := hD.rz 0; have y1 := hD.rz 1; have y2 := hD.rz 2; have y3 := hD.rz 3; have y4 := hD.rz 4; have y5 := hD.rz 5; have y6 := hD.rz 6; have y7 := hD.rz 7; have x0 := HX0.out _ hD.rw_; have HD := Lib.hid hD; clear hD
        have wC : IntKind.i64.wrap (SA + (SB + X)) = SA + (SB + X) := IntWalk.i64_in _ (by omega)
        go_quiet ((go_at_call 36; first | (with_reducible exact q1_ (fun j => (HS2.out _ _ _ _ _ (HD.out.drewN j)).1)) | (with_reducible exact q1_ (fun j => (HS2.out _ _ _ _ _ (HD.out.drewN j)).2))))
        clear wC hpb
        have hD := HD.out.drewN nq
        obtain ⟨wq, hq⟩ : ∃ wq, wq = wn.drewN nq := ⟨_, rfl⟩
        rw [← hq] at hD ⊢
        clear hq
        clear k0 z0 r0 y0 k1 z1 r1 y1 k2 z2 r2 y2 k3 z3 r3 y3 k4 z4 r4 y4 k5 z5 r5 y5 k6 z6 r6 y6 k7 z7 r7 y7 x0 HD
        have k0 := hD.k0; have k1 := hD.k1; have k2 := hD.k2; have k3 := hD.k3; have k4 := hD.k4; have k5 := hD.k5; have k6 := hD.k6; have k7 := hD.k7; have z0 := hD.kz 0; have z1 := hD.kz 1; have z2 := hD.kz 2; have z3 := hD.kz 3; have z4 := hD.kz 4; have z5 := hD.kz 5; have z6 := hD.kz 6; have z7 := hD.kz 7; have r0 := hD.r0; have r1 := hD.r1; have r2 := hD.r2; have r3 := hD.r3; have r4 := hD.r4; have r5 := hD.r5; have r6 := hD.r6; have r7 := hD.r7; have y0 := hD.rz 0; have y1 := hD.rz 1; have y2 := hD.rz 2; have y3 := hD.rz 3; have y4 := hD.rz 4; have y5 := hD.rz 5; have y6 := hD.rz 6; have y7 := hD.rz 7; have x0 := HX0.out _ hD.rw_; have HD := Lib.hid hD; clear hD
        go_wp2_with fail
        refine start_ (n := 11) (S := fun w' => w'.cell? ⟨w.heap.size, 0, none⟩ = some (.slice At th.length ct) ∧ w'.cell? ⟨w.heap.size, 2, none⟩ = some (.slice A2 gr2.length c2)) (ds := [10]) #[false, false, false, false, false, false, false, false, false, false, false] (by kernel_rfl) rfl rfl ⟨k0, k2⟩ (fun hHeld => ?_)
        refine pure_ (i := 0) (N := some 203) (v := ?_) (a' := ?_) #[true, false, false, false, false, false, false, false, false, false, false] rfl rfl (by kernel_rfl) (fun _ _ _ h => h) (Or.inl ⟨by rfl, ?_⟩) ?_ ?_
        rotate_left
        · intro w'
          go_simp
          with_reducible rfl
        rotate_left
        · simp only [Act.put, List.setIfInBounds_toArray, List.set_cons_zero, List.set_cons_succ, i64_w, i32_w]
          rfl
        refine pure_ (i := 1) (N := some 204) (v := ?_) (a' := ?_) #[true, true, false, false, false, false, false, false, false, false, false] rfl rfl (by kernel_rfl) (fun _ _ _ h => h) (Or.inl ⟨by rfl, ?_⟩) ?_ ?_
        rotate_left
        · intro w'
          go_simp
          with_reducible rfl
        rotate_left
        · simp only [Act.put, List.setIfInBounds_toArray, List.set_cons_zero, List.set_cons_succ, i64_w, i32_w]
          rfl
        refine pure_ (i := 4) (N := some 207) (v := ?_) (a' := ?_) #[true, true, false, false, true, false, false, false, false, false, false] rfl rfl (by kernel_rfl) (fun _ _ _ h => h) (Or.inl ⟨by rfl, ?_⟩) ?_ ?_
        rotate_left
        · intro w'
          go_simp
          with_reducible rfl
        rotate_left
        · simp only [Act.put, List.setIfInBounds_toArray, List.set_cons_zero, List.set_cons_succ, i64_w, i32_w]
          rfl
        refine pure_ (i := 5) (N := some 208) (v := ?_) (a' := ?_) #[true, true, false, false, true, true, false, false, false, false, false] rfl rfl (by kernel_rfl) (fun _ _ _ h => h) (Or.inl ⟨by rfl, ?_⟩) ?_ ?_
        rotate_left
        · intro w'
          go_simp
          with_reducible rfl
        rotate_left
        · simp only [Act.put, List.setIfInBounds_toArray, List.set_cons_zero, List.set_cons_succ, i64_w, i32_w]
          rfl
        refine take_ (i := 2) (N := some 205) (v := ?_) (a' := ?_) #[true, true, true, false, true, true, false, false, false, false, false] rfl rfl (by kernel_rfl) (fun _ _ _ h => h) (Or.inl ⟨by rfl, ?_⟩) hHeld ?_ ?_
        rotate_left
        · rintro w' ⟨s0, s1⟩
          go_simp
          with_reducible rfl
        rotate_left
        · simp only [Act.put, List.setIfInBounds_toArray, List.set_cons_zero, List.set_cons_succ, i64_w, i32_w]
          rfl
        refine take_ (i := 6) (N := some 209) (v := ?_) (a' := ?_) #[true, true, true, false, true, true, true, false, false, false, false] rfl rfl (by kernel_rfl) (fun _ _ _ h => h) (Or.inl ⟨by rfl, ?_⟩) hHeld ?_ ?_
        rotate_left
        · rintro w' ⟨s0, s1⟩
          go_simp
          with_reducible rfl
        rotate_left
        · simp only [Act.put, List.setIfInBounds_toArray, List.set_cons_zero, List.set_cons_succ, i64_w, i32_w]
          rfl
        refine one_ (i := 3) (N := some 206) #[true, true, true, true, true, true, true, false, false, false, false] rfl rfl (by kernel_rfl) (by decide) (fun K hK => ?_)
        refine goes_ Try.func36 (by kernel_rfl) rfl #[.slice (some ⟨b0, o0, none⟩) ws.length c0, .slice At th.length ct] (by rfl) rfl rfl (by simp only [List.map_toArray, List.map_cons, List.map_nil]; rfl) ?_
        with_reducible refine ((HS2.out _ _ _ _ _ HD.out.drew).1).mono ?_
        rintro e w1 ⟨rfl, hd1⟩
        refine ⟨_, rfl, ?_⟩
        have hD1 := HD.out.drew.below hd1.below
        clear hd1
        refine hK.out _ _ ⟨hD1.k0, hD1.k2⟩ (fun hHeld => ?_)
        clear hK K
        refine norm_ (a' := ?_) ?_ ?_
        rotate_left
        · show Act.put _ (some 206) _ = _
          simp only [Act.put, List.setIfInBounds_toArray, List.set_cons_zero, List.set_cons_succ, i64_w, i32_w]
          rfl
        refine one_ (i := 7) (N := some 210) #[true, true, true, true, true, true, true, true, false, false, false] rfl rfl (by kernel_rfl) (by decide) (fun K hK => ?_)
        refine goes_ Try.func36 (by kernel_rfl) rfl #[.slice (some ⟨b0, o0, none⟩) ws.length c0, .slice A2 gr2.length c2] (by rfl) rfl rfl (by simp only [List.map_toArray, List.map_cons, List.map_nil]; rfl) ?_
        with_reducible refine ((HS2.out _ _ _ _ _ hD1).2).mono ?_
        rintro e w2 ⟨rfl, hd2⟩
        refine ⟨_, rfl, ?_⟩
        have hD2 := hD1.below hd2.below
        clear hd2
        have p6 := hD2.k6
        have pz := hD2.kz 6
        refine hK.out _ _ ⟨hD2.k0, hD2.k2⟩ (fun hHeld => ?_)
        clear hK K
        refine norm_ (a' := ?_) ?_ ?_
        rotate_left
        · show Act.put _ (some 210) _ = _
          simp only [Act.put, List.setIfInBounds_toArray, List.set_cons_zero, List.set_cons_succ, i64_w, i32_w]
          rfl
        refine pure_ (i := 8) (N := some 211) (v := ?_) (a' := ?_) #[true, true, true, true, true, true, true, true, true, false, false] rfl rfl (by kernel_rfl) (fun _ _ _ h => h) (Or.inl ⟨by rfl, ?_⟩) ?_ ?_
        rotate_left
        · intro w'
          go_simp
          with_reducible rfl
        rotate_left
        · simp only [Act.put, List.setIfInBounds_toArray, List.set_cons_zero, List.set_cons_succ, i64_w, i32_w]
          rfl
        refine pure_ (i := 9) (N := some 212) (v := ?_) (a' := ?_) #[true, true, true, true, true, true, true, true, true, true, false] rfl rfl (by kernel_rfl) (fun _ _ _ h => h) (Or.inl ⟨by rfl, ?_⟩) ?_ ?_
        rotate_left
        · intro w'
          go_simp
          with_reducible rfl
        rotate_left
        · simp only [Act.put, List.setIfInBounds_toArray, List.set_cons_zero, List.set_cons_succ, i64_w, i32_w]
          rfl
        refine last_ (i := 10) (N := none) #[true, true, true, true, true, true, true, true, true, true, true] rfl rfl (by kernel_rfl) (by decide) (fun K hK => ?_)
        refine skip_ (w1 := ?_) (by rfl) rfl ?_ ?_
        rotate_left
        · go_simp
          rfl
        refine hK.out _ _ ?_
        clear hK K
        refine done_ (by kernel_rfl) ?_
        (try clear hHeld)
        have hws : wrap64 (SA + (SB + X)) = (SA + (SB + X)) := wr64 (by omega) (by omega)
        (try rw [hws])
        clear hws
        have hD := hD2.pk_ (SA + (SB + X))
        obtain ⟨wn, hq⟩ : ∃ wn, wn = w2.setCell ⟨w.heap.size, 6, none⟩ (.int .i64 (SA + (SB + X))) := ⟨_, rfl⟩
        rw [← hq] at hD ⊢
        clear hq hD1 hD2 p6 pz
        clear k0 z0 r0 y0 k1 z1 r1 y1 k2 z2 r2 y2 k3 z3 r3 y3 k4 z4 r4 y4 k5 z5 r5 y5 k6 z6 r6 y6 k7 z7 r7 y7 x0 HD
        have k0 := hD.k0; have k1 := hD.k1; have k2 := hD.k2; have k3 := hD.k3; have k4 := hD.k4; have k5 := hD.k5; have k6 := hD.k6; have k7 := hD.k7; have z0 := hD.kz 0; have z1 := hD.kz 1; have z2 := hD.kz 2; have z3 := hD.kz 3; have z4 := hD.kz 4; have z5 := hD.kz 5; have z6 := hD.kz 6; have z7 := hD.kz 7; have r0 := hD.r0; have r1 := hD.r1; have r2 := hD.r2; have r3 := hD.r3; have r4 := hD.r4; have r5 := hD.r5; have r6 := hD.r6; have r7 := hD.r7; have y0 := hD.rz 0; have y1 := hD.rz 1; have y2 := hD.rz 2; have y3 := hD.rz 3; have y4 := hD.rz 4; have y5 := hD.rz 5; have y6 := hD.rz 6; have y7 := hD.rz 7; have x0 := HX0.out _ hD.rw_; have HD := Lib.hid hD; clear hD
        go_wp2_with fail
        refine (HW2.out _ _ _ _ _ HD.out).mono ?_
        rintro e wn ⟨A3, c3, rfl, hl3', hr3, hD⟩
        have HLX := Lib.hid hl3'
        have HR3 := Lib.hid hr3
        clear hl3' hr3
        clear k0 z0 r0 y0 k1 z1 r1 y1 k2 z2 r2 y2 k3 z3 r3 y3 k4 z4 r4 y4 k5 z5 r5 y5 k6 z6 r6 y6 k7 z7 r7 y7 x0 HD
        have k0 := hD.k0; have k1 := hD.k1; have k2 := hD.k2; have k3 := hD.k3; have k4 := hD.k4; have k5 := hD.k5; have k6 := hD.k6; have k7 := hD.k7; have z0 := hD.kz 0; have z1 := hD.kz 1; have z2 := hD.kz 2; have z3 := hD.kz 3; have z4 := hD.kz 4; have z5 := hD.kz 5; have z6 := hD.kz 6; have z7 := hD.kz 7; have r0 := hD.r0; have r1 := hD.r1; have r2 := hD.r2; have r3 := hD.r3; have r4 := hD.r4; have r5 := hD.r5; have r6 := hD.r6; have r7 := hD.r7; have y0 := hD.rz 0; have y1 := hD.rz 1; have y2 := hD.rz 2; have y3 := hD.rz 3; have y4 := hD.rz 4; have y5 := hD.rz 5; have y6 := hD.rz 6; have y7 := hD.rz 7; have x0 := HX0.out _ hD.rw_; have HD := Lib.hid hD; clear hD
        go_wp2_with fail
        have hD := HD.out.gr_ HR3.out HLX.out
        obtain ⟨wq, hq⟩ : ∃ wq, wq = wn.setCell ⟨w.heap.size, 2, none⟩ (.slice A3 gr3.length c3) := ⟨_, rfl⟩
        rw [← hq] at hD ⊢
        clear hq HR3 HLX
        clear k0 z0 r0 y0 k1 z1 r1 y1 k2 z2 r2 y2 k3 z3 r3 y3 k4 z4 r4 y4 k5 z5 r5 y5 k6 z6 r6 y6 k7 z7 r7 y7 x0 HD
        have k0 := hD.k0; have k1 := hD.k1; have k2 := hD.k2; have k3 := hD.k3; have k4 := hD.k4; have k5 := hD.k5; have k6 := hD.k6; have k7 := hD.k7; have z0 := hD.kz 0; have z1 := hD.kz 1; have z2 := hD.kz 2; have z3 := hD.kz 3; have z4 := hD.kz 4; have z5 := hD.kz 5; have z6 := hD.kz 6; have z7 := hD.kz 7; have r0 := hD.r0; have r1 := hD.r1; have r2 := hD.r2; have r3 := hD.r3; have r4 := hD.r4; have r5 := hD.r5; have r6 := hD.r6; have r7 := hD.r7; have y0 := hD.rz 0; have y1 := hD.rz 1; have y2 := hD.rz 2; have y3 := hD.rz 3; have y4 := hD.rz 4; have y5 := hD.rz 5; have y6 := hD.rz 6; have y7 := hD.rz 7; have x0 := HX0.out _ hD.rw_; have HD := Lib.hid hD; clear hD
        refine bodyPost_ret (v := .tuple #[.agg #[.slice At th.length ct, .slice As sv.length cs', .slice A3 gr3.length c3, .int .i64 em, .int .i64 sd, .int .i64 (dn + 1), .int .i64 (SA + (SB + X)), .int .i64 co], .int .i64 0]) (by simp [results, Try.f24, go_sem, k0, k1, k2, k3, k4, k5, k6, k7, r0, r1, r2, r3, r4, r5, r6, r7, y0, y1, y2, y3, y4, y5, y6, y7]) rfl ?_
        exact HD.out.done (by rw [HE.out]) (fun _ => by rw [HE.out]; exact HREL.out)
      · have hpb : decide (pk < SA + (SB + X)) = false := by simp; omega
        rw [show max pk (SA + SB + X) = pk by omega] at hrel
        have HREL := Lib.hid hrel
        clear hrel hp
        have hwn := HWN.out
        go_enter Try.func24, Try.ntmps24
        simp only [scells]
        go_upto_region 2 with (fail)
        rw [← HW.out]
        have hD := HDW.out
        have k0 := hD.k0; have k1 := hD.k1; have k2 := hD.k2; have k3 := hD.k3; have k4 := hD.k4; have k5 := hD.k5; have k6 := hD.k6; have k7 := hD.k7; have z0 := hD.kz 0; have z1 := hD.kz 1; have z2 := hD.kz 2; have z3 := hD.kz 3; have z4 := hD.kz 4; have z5 := hD.kz 5; have z6 := hD.kz 6; have z7 := hD.kz 7; have r0 := hD.r0; have r1 := hD.r1; have r2 := hD.r2; have r3 := hD.r3; have r4 := hD.r4; have r5 := hD.r5; have r6 := hD.r6; have r7 := hD.r7; have y0 := hD.rz 0; have y1 := hD.rz 1; have y2 := hD.rz 2; have y3 := hD.rz 3; have y4 := hD.rz 4; have y5 := hD.rz 5; have y6 := hD.rz 6; have y7 := hD.rz 7; have x0 := HX0.out _ hD.rw_; have HD := Lib.hid hD; clear hD
        go_wp2_with (go_at_call 35; first | ((with_reducible refine (HRD.out _ HD.out).mono ?_); (rintro e wn ⟨rfl, hdr⟩; have hD := HD.out.below hdr.below; clear k0 z0 r0 y0 k1 z1 r1 y1 k2 z2 r2 y2 k3 z3 r3 y3 k4 z4 r4 y4 k5 z5 r5 y5 k6 z6 r6 y6 k7 z7 r7 y7 x0 HD; have k0 := hD.k0; have k1 := hD.k1; have k2 := hD.k2; have k3 := hD.k3; have k4 := hD.k4; have k5 := hD.k5; have k6 := hD.k6; have k7 := hD.k7; have z0 := hD.kz 0; have z1 := hD.kz 1; have z2 := hD.kz 2; have z3 := hD.kz 3; have z4 := hD.kz 4; have z5 := hD.kz 5; have z6 := hD.kz 6; have z7 := hD.kz 7; have r0 := hD.r0; have r1 := hD.r1; have r2 := hD.r2; have r3 := hD.r3; have r4 := hD.r4; have r5 := hD.r5; have r6 := hD.r6; have r7 := hD.r7; have y0 := hD.rz 0; have y1 := hD.rz 1; have y2 := hD.rz 2; have y3 := hD.rz 3; have y4 := hD.rz 4; have y5 := hD.rz 5; have y6 := hD.rz 6; have y7 := hD.rz 7; have x0 := HX0.out _ hD.rw_; have HD := Lib.hid hD; clear hD; clear hdr)) | ((with_reducible refine (HGR.out _ HD.out).mono ?_); (rintro e wn ⟨rfl, hdr⟩; have hD := HD.out.below hdr.below; clear k0 z0 r0 y0 k1 z1 r1 y1 k2 z2 r2 y2 k3 z3 r3 y3 k4 z4 r4 y4 k5 z5 r5 y5 k6 z6 r6 y6 k7 z7 r7 y7 x0 HD; have k0 := hD.k0; have k1 := hD.k1; have k2 := hD.k2; have k3 := hD.k3; have k4 := hD.k4; have k5 := hD.k5; have k6 := hD.k6; have k7 := hD.k7; have z0 := hD.kz 0; have z1 := hD.kz 1; have z2 := hD.kz 2; have z3 := hD.kz 3; have z4 := hD.kz 4; have z5 := hD.kz 5; have z6 := hD.kz 6; have z7 := hD.kz 7; have r0 := hD.r0; have r1 := hD.r1; have r2 := hD.r2; have r3 := hD.r3; have r4 := hD.r4; have r5 := hD.r5; have r6 := hD.r6; have r7 := hD.r7; have y0 := hD.rz 0; have y1 := hD.rz 1; have y2 := hD.rz 2; have y3 := hD.rz 3; have y4 := hD.rz 4; have y5 := hD.rz 5; have y6 := hD.rz 6; have y7 := hD.rz 7; have x0 := HX0.out _ hD.rw_; have HD := Lib.hid hD; clear hD; clear hdr)))
        (try clear hwn)
        have wA : IntKind.i64.wrap (SA + SB) = SA + SB := IntWalk.i64_in _ (by omega)
        have wB : IntKind.i64.wrap (SA + SB + X) = SA + SB + X := IntWalk.i64_in _ (by omega)
        have hwi := HWI.out
        go_quiet ((go_at_call 36; first | (with_reducible exact q1_ (fun j => (HSM.out _ (HD.out.drewN j)).1)) | (with_reducible exact q1_ (fun j => (HSM.out _ (HD.out.drewN j)).2))))
        clear wA wB hcb hwi
        have hD := HD.out.drewN nq
        obtain ⟨wq, hq⟩ : ∃ wq, wq = wn.drewN nq := ⟨_, rfl⟩
        rw [← hq] at hD ⊢
        clear hq
        clear k0 z0 r0 y0 k1 z1 r1 y1 k2 z2 r2 y2 k3 z3 r3 y3 k4 z4 r4 y4 k5 z5 r5 y5 k6 z6 r6 y6 k7 z7 r7 y7 x0 HD
        have k0 := hD.k0; have k1 := hD.k1; have k2 := hD.k2; have k3 := hD.k3; have k4 := hD.k4; have k5 := hD.k5; have k6 := hD.k6; have k7 := hD.k7; have z0 := hD.kz 0; have z1 := hD.kz 1; have z2 := hD.kz 2; have z3 := hD.kz 3; have z4 := hD.kz 4; have z5 := hD.kz 5; have z6 := hD.kz 6; have z7 := hD.kz 7; have r0 := hD.r0; have r1 := hD.r1; have r2 := hD.r2; have r3 := hD.r3; have r4 := hD.r4; have r5 := hD.r5; have r6 := hD.r6; have r7 := hD.r7; have y0 := hD.rz 0; have y1 := hD.rz 1; have y2 := hD.rz 2; have y3 := hD.rz 3; have y4 := hD.rz 4; have y5 := hD.rz 5; have y6 := hD.rz 6; have y7 := hD.rz 7; have x0 := HX0.out _ hD.rw_; have HD := Lib.hid hD; clear hD
        go_wp2_with fail
        refine (HW1.out _ HD.out).mono ?_
        rintro e wn ⟨A2, c2, rfl, hl2, hr2, hD⟩
        have HL2 := Lib.hid hl2
        have HR2 := Lib.hid hr2
        clear hl2 hr2
        clear k0 z0 r0 y0 k1 z1 r1 y1 k2 z2 r2 y2 k3 z3 r3 y3 k4 z4 r4 y4 k5 z5 r5 y5 k6 z6 r6 y6 k7 z7 r7 y7 x0 HD
        have k0 := hD.k0; have k1 := hD.k1; have k2 := hD.k2; have k3 := hD.k3; have k4 := hD.k4; have k5 := hD.k5; have k6 := hD.k6; have k7 := hD.k7; have z0 := hD.kz 0; have z1 := hD.kz 1; have z2 := hD.kz 2; have z3 := hD.kz 3; have z4 := hD.kz 4; have z5 := hD.kz 5; have z6 := hD.kz 6; have z7 := hD.kz 7; have r0 := hD.r0; have r1 := hD.r1; have r2 := hD.r2; have r3 := hD.r3; have r4 := hD.r4; have r5 := hD.r5; have r6 := hD.r6; have r7 := hD.r7; have y0 := hD.rz 0; have y1 := hD.rz 1; have y2 := hD.rz 2; have y3 := hD.rz 3; have y4 := hD.rz 4; have y5 := hD.rz 5; have y6 := hD.rz 6; have y7 := hD.rz 7; have x0 := HX0.out _ hD.rw_; have HD := Lib.hid hD; clear hD
        go_wp2_with fail
        have hD := HD.out.gr_ HR2.out HL2.out
        obtain ⟨wq, hq⟩ : ∃ wq, wq = wn.setCell ⟨w.heap.size, 2, none⟩ (.slice A2 gr2.length c2) := ⟨_, rfl⟩
        rw [← hq] at hD ⊢
        clear hq HR2 HL2
        clear k0 z0 r0 y0 k1 z1 r1 y1 k2 z2 r2 y2 k3 z3 r3 y3 k4 z4 r4 y4 k5 z5 r5 y5 k6 z6 r6 y6 k7 z7 r7 y7 x0 HD
        have k0 := hD.k0; have k1 := hD.k1; have k2 := hD.k2; have k3 := hD.k3; have k4 := hD.k4; have k5 := hD.k5; have k6 := hD.k6; have k7 := hD.k7; have z0 := hD.kz 0; have z1 := hD.kz 1; have z2 := hD.kz 2; have z3 := hD.kz 3; have z4 := hD.kz 4; have z5 := hD.kz 5; have z6 := hD.kz 6; have z7 := hD.kz 7; have r0 := hD.r0; have r1 := hD.r1; have r2 := hD.r2; have r3 := hD.r3; have r4 := hD.r4; have r5 := hD.r5; have r6 := hD.r6; have r7 := hD.r7; have y0 := hD.rz 0; have y1 := hD.rz 1; have y2 := hD.rz 2; have y3 := hD.rz 3; have y4 := hD.rz 4; have y5 := hD.rz 5; have y6 := hD.rz 6; have y7 := hD.rz 7; have x0 := HX0.out _ hD.rw_; have HD := Lib.hid hD; clear hD
        go_wp2_with fail
        have hD := HD.out.dn_ (dn + 1)
        obtain ⟨wn, hq⟩ : ∃ wn, wn = wq.setCell ⟨w.heap.size, 5, none⟩ (.int .i64 (dn + 1)) := ⟨_, rfl⟩
        rw [← hq] at hD ⊢
        clear hq
        clear k0 z0 r0 y0 k1 z1 r1 y1 k2 z2 r2 y2 k3 z3 r3 y3 k4 z4 r4 y4 k5 z5 r5 y5 k6 z6 r6 y6 k7 z7 r7 y7 x0 HD
        have k0 := hD.k0; have k1 := hD.k1; have k2 := hD.k2; have k3 := hD.k3; have k4 := hD.k4; have k5 := hD.k5; have k6 := hD.k6; have k7 := hD.k7; have z0 := hD.kz 0; have z1 := hD.kz 1; have z2 := hD.kz 2; have z3 := hD.kz 3; have z4 := hD.kz 4; have z5 := hD.kz 5; have z6 := hD.kz 6; have z7 := hD.kz 7; have r0 := hD.r0; have r1 := hD.r1; have r2 := hD.r2; have r3 := hD.r3; have r4 := hD.r4; have r5 := hD.r5; have r6 := hD.r6; have r7 := hD.r7; have y0 := hD.rz 0; have y1 := hD.rz 1; have y2 := hD.rz 2; have y3 := hD.rz 3; have y4 := hD.rz 4; have y5 := hD.rz 5; have y6 := hD.rz 6; have y7 := hD.rz 7; have x0 := HX0.out _ hD.rw_; have HD := Lib.hid hD; clear hD
        have wC : IntKind.i64.wrap (SA + (SB + X)) = SA + (SB + X) := IntWalk.i64_in _ (by omega)
        go_quiet ((go_at_call 36; first | (with_reducible exact q1_ (fun j => (HS2.out _ _ _ _ _ (HD.out.drewN j)).1)) | (with_reducible exact q1_ (fun j => (HS2.out _ _ _ _ _ (HD.out.drewN j)).2))))
        clear wC hpb
        have hD := HD.out.drewN nq
        obtain ⟨wq, hq⟩ : ∃ wq, wq = wn.drewN nq := ⟨_, rfl⟩
        rw [← hq] at hD ⊢
        clear hq
        clear k0 z0 r0 y0 k1 z1 r1 y1 k2 z2 r2 y2 k3 z3 r3 y3 k4 z4 r4 y4 k5 z5 r5 y5 k6 z6 r6 y6 k7 z7 r7 y7 x0 HD
        have k0 := hD.k0; have k1 := hD.k1; have k2 := hD.k2; have k3 := hD.k3; have k4 := hD.k4; have k5 := hD.k5; have k6 := hD.k6; have k7 := hD.k7; have z0 := hD.kz 0; have z1 := hD.kz 1; have z2 := hD.kz 2; have z3 := hD.kz 3; have z4 := hD.kz 4; have z5 := hD.kz 5; have z6 := hD.kz 6; have z7 := hD.kz 7; have r0 := hD.r0; have r1 := hD.r1; have r2 := hD.r2; have r3 := hD.r3; have r4 := hD.r4; have r5 := hD.r5; have r6 := hD.r6; have r7 := hD.r7; have y0 := hD.rz 0; have y1 := hD.rz 1; have y2 := hD.rz 2; have y3 := hD.rz 3; have y4 := hD.rz 4; have y5 := hD.rz 5; have y6 := hD.rz 6; have y7 := hD.rz 7; have x0 := HX0.out _ hD.rw_; have HD := Lib.hid hD; clear hD
        go_wp2_with fail
        refine (HW2.out _ _ _ _ _ HD.out).mono ?_
        rintro e wn ⟨A3, c3, rfl, hl3', hr3, hD⟩
        have HLX := Lib.hid hl3'
        have HR3 := Lib.hid hr3
        clear hl3' hr3
        clear k0 z0 r0 y0 k1 z1 r1 y1 k2 z2 r2 y2 k3 z3 r3 y3 k4 z4 r4 y4 k5 z5 r5 y5 k6 z6 r6 y6 k7 z7 r7 y7 x0 HD
        have k0 := hD.k0; have k1 := hD.k1; have k2 := hD.k2; have k3 := hD.k3; have k4 := hD.k4; have k5 := hD.k5; have k6 := hD.k6; have k7 := hD.k7; have z0 := hD.kz 0; have z1 := hD.kz 1; have z2 := hD.kz 2; have z3 := hD.kz 3; have z4 := hD.kz 4; have z5 := hD.kz 5; have z6 := hD.kz 6; have z7 := hD.kz 7; have r0 := hD.r0; have r1 := hD.r1; have r2 := hD.r2; have r3 := hD.r3; have r4 := hD.r4; have r5 := hD.r5; have r6 := hD.r6; have r7 := hD.r7; have y0 := hD.rz 0; have y1 := hD.rz 1; have y2 := hD.rz 2; have y3 := hD.rz 3; have y4 := hD.rz 4; have y5 := hD.rz 5; have y6 := hD.rz 6; have y7 := hD.rz 7; have x0 := HX0.out _ hD.rw_; have HD := Lib.hid hD; clear hD
        go_wp2_with fail
        have hD := HD.out.gr_ HR3.out HLX.out
        obtain ⟨wq, hq⟩ : ∃ wq, wq = wn.setCell ⟨w.heap.size, 2, none⟩ (.slice A3 gr3.length c3) := ⟨_, rfl⟩
        rw [← hq] at hD ⊢
        clear hq HR3 HLX
        clear k0 z0 r0 y0 k1 z1 r1 y1 k2 z2 r2 y2 k3 z3 r3 y3 k4 z4 r4 y4 k5 z5 r5 y5 k6 z6 r6 y6 k7 z7 r7 y7 x0 HD
        have k0 := hD.k0; have k1 := hD.k1; have k2 := hD.k2; have k3 := hD.k3; have k4 := hD.k4; have k5 := hD.k5; have k6 := hD.k6; have k7 := hD.k7; have z0 := hD.kz 0; have z1 := hD.kz 1; have z2 := hD.kz 2; have z3 := hD.kz 3; have z4 := hD.kz 4; have z5 := hD.kz 5; have z6 := hD.kz 6; have z7 := hD.kz 7; have r0 := hD.r0; have r1 := hD.r1; have r2 := hD.r2; have r3 := hD.r3; have r4 := hD.r4; have r5 := hD.r5; have r6 := hD.r6; have r7 := hD.r7; have y0 := hD.rz 0; have y1 := hD.rz 1; have y2 := hD.rz 2; have y3 := hD.rz 3; have y4 := hD.rz 4; have y5 := hD.rz 5; have y6 := hD.rz 6; have y7 := hD.rz 7; have x0 := HX0.out _ hD.rw_; have HD := Lib.hid hD; clear hD
        refine bodyPost_ret (v := .tuple #[.agg #[.slice At th.length ct, .slice As sv.length cs', .slice A3 gr3.length c3, .int .i64 em, .int .i64 sd, .int .i64 (dn + 1), .int .i64 pk, .int .i64 co], .int .i64 0]) (by simp [results, Try.f24, go_sem, k0, k1, k2, k3, k4, k5, k6, k7, r0, r1, r2, r3, r4, r5, r6, r7, y0, y1, y2, y3, y4, y5, y6, y7]) rfl ?_
        exact HD.out.done (by rw [HE.out]) (fun _ => by rw [HE.out]; exact HREL.out)
end Go.Proofs.Ytiejdbdbafmccaa
/- part ChRfB -/
namespace Go.Proofs.Ytiejdbdbafmccaa
open Go.RowKit Go.Proofs.YtiejdbdbafmccaaW.PrintWords Go.Proofs.YtiejdbdbafmccaaW.PrintLast Go.Proofs.Ytiejdbdbafmccaa.PCh
set_option maxRecDepth 100000 in
set_option maxHeartbeats 8000000 in
theorem do_bad6 {w : World} {A0 : Option Addr} {c0 : Nat} {A1 : Option Addr} {c1 : Nat} {ws cs : List Int} {cap : Int} {At : Option Addr} {ct : Nat} {As : Option Addr} {cs' : Nat} {Ag : Option Addr} {cg : Nat} {th sv gr : List Int} {em sd dn pk co : Int} {t : Nat} {x : Wk} (h : DoPre w A0 c0 A1 c1 ws cs cap At ct As cs' Ag cg th sv gr em sd dn pk co t x) (id : Nat) (hk : OkI cs.length 6 id) (hmy : mayB x cs.length 6 id = false) :
    Calls Try.prog 24 #[.slice A0 ws.length c0, .slice A1 cs.length c1, .int .i64 cap, .agg (scells At ct As cs' Ag cg th sv gr em sd dn pk co), .int .i64 6, .int .i64 (id : Int)] w (DoR w ws cs cap (t + 1) (doW x ws cs cap 6 id)) := by
  have ht := h.rt_
  have hlen := ht.len
  have hlo := ht.lo
  have hhi := ht.hi
  have hin := hk.idn
  have hi1 := hk.id0 (by decide) (by decide)
  have hcp := h.cp
  obtain ⟨b0, o0, e0, _, _⟩ := C_at h.r0 (by omega)
  obtain ⟨b1, o1, e1, _, _⟩ := C_at h.r1 (by omega)
  subst e0
  subst e1
  obtain ⟨W, hW⟩ : ∃ W, W = (w.alloc (.cells (scells At ct As cs' Ag cg th sv gr em sd dn pk co) 61)).alloc (.cells z8 61) := ⟨_, rfl⟩
  have hD := h.start hW
  obtain ⟨RD, hF⟩ := h.facts id (by omega)
  have HX0 : Hid (∀ wr, RdI w.heap.size wr (some ⟨b0, o0, none⟩) ws → wr.cell? ⟨b0, o0 + (id - 1), none⟩ = some (.int .i64 (ws.getD (id - 1) 0))) := Lib.hid fun wr hr => hr.get (by omega)
  have HW := Lib.hid (show W = (w.alloc (.cells #[.slice At th.length ct, .slice As sv.length cs', .slice Ag gr.length cg, .int .i64 em, .int .i64 sd, .int .i64 dn, .int .i64 pk, .int .i64 co] 61)).alloc (.cells #[.slice none 0 0, .slice none 0 0, .slice none 0 0, .int .i64 0, .int .i64 0, .int .i64 0, .int .i64 0, .int .i64 0] 61) from hW)
  have HDW := Lib.hid hD
  have HDN : Hid (∀ (E : Int) (wr : World), doW x ws cs cap 6 id = (x, E) → E ≠ 0 → DI w b0 o0 b1 o1 ws cs At ct As cs' Ag cg th sv gr em sd dn pk co wr → _) := Lib.hid fun E wr hE h0 (hr : DI w b0 o0 b1 o1 ws cs At ct As cs' Ag cg th sv gr em sd dn pk co wr) => hr.done (cap := cap) (t := t + 1) (R := doW x ws cs cap 6 id) (E := E) (by rw [hE]) (fun hh => absurd (by rw [hE] at hh; exact hh) h0)
  have HRD := Lib.hid hF.rd
  have hrdy := hF.rdy hi1
  have HGR : Hid (∀ wr, DI w b0 o0 b1 o1 ws cs At ct As cs' Ag cg th sv gr em sd dn pk co wr → Calls Try.prog 35 #[.slice Ag gr.length cg, .int .i64 (id : Int)] wr fun e w' => e = .returned (.bool (x.gr id)) ∧ Drawn0 wr w') := Lib.hid fun wr hr => by
    have q := (hF.has (id : Int) wr hr).2.2
    rw [show decide ((id : Int) ∈ gr) = x.gr id from h.rel.gr.has id hi1 hin] at q
    exact q
  have sa := hF.sa
  have sb := hF.sb
  have sw := hF.sw
  have swd := hF.wd
  have hl3 := hF.l3
  have hpkw := h.rel.pkw
  have hpk : pk = x.pk := h.rel.pk
  have hdn : dn = x.dn := h.rel.dn
  have hbd := h.bd.dn
  have htt := h.tt
  have hmb : mayB x cs.length 6 id = (x.gr id && (rdyB x id && decide ((id : Int) = (cs.length : Int) - x.dn))) := rfl
  rw [← hdn] at hmb hbd
  rw [hrdy] at hmb
  have HWN : Hid (wrap64 ((cs.length : Int) - dn) = (cs.length : Int) - dn) := wr64 (by omega) (by omega)
  have HWI : Hid (wrap64 ((id : Int) - 1) = (id : Int) - 1) := wr64 (by omega) (by omega)
  have HWD : Hid (wrap64 (dn + 1) = dn + 1) := wr64 (by omega) (by omega)
  have i1 : (1 : Int) ≤ (id : Int) := by omega
  have i2 : (id : Int) ≤ 64 := by omega
  have i4 : (0 : Int) ≤ (id : Int) - 1 := by omega
  have i5 : (id : Int) - 1 < (ws.length : Int) := by omega
  have i6 : ((id : Int) - 1).toNat = id - 1 := by omega
  have j1 : 0 ≤ dn := by omega
  have j2 : dn ≤ 200000 := by omega
  have j3 : (cs.length : Int) ≤ 64 := by omega
  have HE := Lib.hid (show doW x ws cs cap 6 id = (x, 24) by unfold doW; rw [if_pos hmy])
  rw [hmb] at hmy
  clear hmb hF h ht hD hW hlen sw hpk hrdy htt hdn
  generalize x.gr id = GB at *
  by_cases hi : id = 1
  · have hib : ((id : Int) == 1) = true := by simp; omega
    rw [show decide (id = 1) = true by simp [hi]] at hmy
    clear hi
    by_cases hq : (id : Int) = (cs.length : Int) - dn
    · have hqb : ((id : Int) != (cs.length : Int) - dn) = false := by simpa using hq
      rw [decide_eq_true hq] at hmy
      have HMY := Lib.hid hmy
      clear hmy hq
      cases GB <;> cases RD
      all_goals first | exact absurd HMY.out (by decide) | skip
      all_goals
        go_enter Try.func24, Try.ntmps24
        simp only [scells]
        go_upto_region 2 with (fail)
        rw [← HW.out]
        have hD := HDW.out
        have k0 := hD.k0; have k1 := hD.k1; have k2 := hD.k2; have k3 := hD.k3; have k4 := hD.k4; have k5 := hD.k5; have k6 := hD.k6; have k7 := hD.k7; have z0 := hD.kz 0; have z1 := hD.kz 1; have z2 := hD.kz 2; have z3 := hD.kz 3; have z4 := hD.kz 4; have z5 := hD.kz 5; have z6 := hD.kz 6; have z7 := hD.kz 7; have r0 := hD.r0; have r1 := hD.r1; have r2 := hD.r2; have r3 := hD.r3; have r4 := hD.r4; have r5 := hD.r5; have r6 := hD.r6; have r7 := hD.r7; have y0 := hD.rz 0; have y1 := hD.rz 1; have y2 := hD.rz 2; have y3 := hD.rz 3; have y4 := hD.rz 4; have y5 := hD.rz 5; have y6 := hD.rz 6; have y7 := hD.rz 7; have x0 := HX0.out _ hD.rw_; have HD := Lib.hid hD; clear hD
        go_wp2_with (go_at_call 35; first | ((with_reducible refine (HRD.out _ HD.out).mono ?_); (rintro e wn ⟨rfl, hdr⟩; have hD := HD.out.below hdr.below; clear k0 z0 r0 y0 k1 z1 r1 y1 k2 z2 r2 y2 k3 z3 r3 y3 k4 z4 r4 y4 k5 z5 r5 y5 k6 z6 r6 y6 k7 z7 r7 y7 x0 HD; have k0 := hD.k0; have k1 := hD.k1; have k2 := hD.k2; have k3 := hD.k3; have k4 := hD.k4; have k5 := hD.k5; have k6 := hD.k6; have k7 := hD.k7; have z0 := hD.kz 0; have z1 := hD.kz 1; have z2 := hD.kz 2; have z3 := hD.kz 3; have z4 := hD.kz 4; have z5 := hD.kz 5; have z6 := hD.kz 6; have z7 := hD.kz 7; have r0 := hD.r0; have r1 := hD.r1; have r2 := hD.r2; have r3 := hD.r3; have r4 := hD.r4; have r5 := hD.r5; have r6 := hD.r6; have r7 := hD.r7; have y0 := hD.rz 0; have y1 := hD.rz 1; have y2 := hD.rz 2; have y3 := hD.rz 3; have y4 := hD.rz 4; have y5 := hD.rz 5; have y6 := hD.rz 6; have y7 := hD.rz 7; have x0 := HX0.out _ hD.rw_; have HD := Lib.hid hD; clear hD; clear hdr)) | ((with_reducible refine (HGR.out _ HD.out).mono ?_); (rintro e wn ⟨rfl, hdr⟩; have hD := HD.out.below hdr.below; clear k0 z0 r0 y0 k1 z1 r1 y1 k2 z2 r2 y2 k3 z3 r3 y3 k4 z4 r4 y4 k5 z5 r5 y5 k6 z6 r6 y6 k7 z7 r7 y7 x0 HD; have k0 := hD.k0; have k1 := hD.k1; have k2 := hD.k2; have k3 := hD.k3; have k4 := hD.k4; have k5 := hD.k5; have k6 := hD.k6; have k7 := hD.k7; have z0 := hD.kz 0; have z1 := hD.kz 1; have z2 := hD.kz 2; have z3 := hD.kz 3; have z4 := hD.kz 4; have z5 := hD.kz 5; have z6 := hD.kz 6; have z7 := hD.kz 7; have r0 := hD.r0; have r1 := hD.r1; have r2 := hD.r2; have r3 := hD.r3; have r4 := hD.r4; have r5 := hD.r5; have r6 := hD.r6; have r7 := hD.r7; have y0 := hD.rz 0; have y1 := hD.rz 1; have y2 := hD.rz 2; have y3 := hD.rz 3; have y4 := hD.rz 4; have y5 := hD.rz 5; have y6 := hD.rz 6; have y7 := hD.rz 7; have x0 := HX0.out _ hD.rw_; have HD := Lib.hid hD; clear hD; clear hdr)))
        refine bodyPost_ret (v := .tuple #[.agg #[.slice At th.length ct, .slice As sv.length cs', .slice Ag gr.length cg, .int .i64 em, .int .i64 sd, .int .i64 dn, .int .i64 pk, .int .i64 co], .int .i64 24]) (by simp [results, Try.f24, go_sem, k0, k1, k2, k3, k4, k5, k6, k7, r0, r1, r2, r3, r4, r5, r6, r7, y0, y1, y2, y3, y4, y5, y6, y7]) rfl ?_
        exact HDN.out _ _ HE.out (by decide) (HD.out)
    · have hqb : ((id : Int) != (cs.length : Int) - dn) = true := by simpa using hq
      clear hmy hq
      cases GB <;> cases RD
      all_goals
        go_enter Try.func24, Try.ntmps24
        simp only [scells]
        go_upto_region 2 with (fail)
        rw [← HW.out]
        have hD := HDW.out
        have k0 := hD.k0; have k1 := hD.k1; have k2 := hD.k2; have k3 := hD.k3; have k4 := hD.k4; have k5 := hD.k5; have k6 := hD.k6; have k7 := hD.k7; have z0 := hD.kz 0; have z1 := hD.kz 1; have z2 := hD.kz 2; have z3 := hD.kz 3; have z4 := hD.kz 4; have z5 := hD.kz 5; have z6 := hD.kz 6; have z7 := hD.kz 7; have r0 := hD.r0; have r1 := hD.r1; have r2 := hD.r2; have r3 := hD.r3; have r4 := hD.r4; have r5 := hD.r5; have r6 := hD.r6; have r7 := hD.r7; have y0 := hD.rz 0; have y1 := hD.rz 1; have y2 := hD.rz 2; have y3 := hD.rz 3; have y4 := hD.rz 4; have y5 := hD.rz 5; have y6 := hD.rz 6; have y7 := hD.rz 7; have x0 := HX0.out _ hD.rw_; have HD := Lib.hid hD; clear hD
        go_wp2_with (go_at_call 35; first | ((with_reducible refine (HRD.out _ HD.out).mono ?_); (rintro e wn ⟨rfl, hdr⟩; have hD := HD.out.below hdr.below; clear k0 z0 r0 y0 k1 z1 r1 y1 k2 z2 r2 y2 k3 z3 r3 y3 k4 z4 r4 y4 k5 z5 r5 y5 k6 z6 r6 y6 k7 z7 r7 y7 x0 HD; have k0 := hD.k0; have k1 := hD.k1; have k2 := hD.k2; have k3 := hD.k3; have k4 := hD.k4; have k5 := hD.k5; have k6 := hD.k6; have k7 := hD.k7; have z0 := hD.kz 0; have z1 := hD.kz 1; have z2 := hD.kz 2; have z3 := hD.kz 3; have z4 := hD.kz 4; have z5 := hD.kz 5; have z6 := hD.kz 6; have z7 := hD.kz 7; have r0 := hD.r0; have r1 := hD.r1; have r2 := hD.r2; have r3 := hD.r3; have r4 := hD.r4; have r5 := hD.r5; have r6 := hD.r6; have r7 := hD.r7; have y0 := hD.rz 0; have y1 := hD.rz 1; have y2 := hD.rz 2; have y3 := hD.rz 3; have y4 := hD.rz 4; have y5 := hD.rz 5; have y6 := hD.rz 6; have y7 := hD.rz 7; have x0 := HX0.out _ hD.rw_; have HD := Lib.hid hD; clear hD; clear hdr)) | ((with_reducible refine (HGR.out _ HD.out).mono ?_); (rintro e wn ⟨rfl, hdr⟩; have hD := HD.out.below hdr.below; clear k0 z0 r0 y0 k1 z1 r1 y1 k2 z2 r2 y2 k3 z3 r3 y3 k4 z4 r4 y4 k5 z5 r5 y5 k6 z6 r6 y6 k7 z7 r7 y7 x0 HD; have k0 := hD.k0; have k1 := hD.k1; have k2 := hD.k2; have k3 := hD.k3; have k4 := hD.k4; have k5 := hD.k5; have k6 := hD.k6; have k7 := hD.k7; have z0 := hD.kz 0; have z1 := hD.kz 1; have z2 := hD.kz 2; have z3 := hD.kz 3; have z4 := hD.kz 4; have z5 := hD.kz 5; have z6 := hD.kz 6; have z7 := hD.kz 7; have r0 := hD.r0; have r1 := hD.r1; have r2 := hD.r2; have r3 := hD.r3; have r4 := hD.r4; have r5 := hD.r5; have r6 := hD.r6; have r7 := hD.r7; have y0 := hD.rz 0; have y1 := hD.rz 1; have y2 := hD.rz 2; have y3 := hD.rz 3; have y4 := hD.rz 4; have y5 := hD.rz 5; have y6 := hD.rz 6; have y7 := hD.rz 7; have x0 := HX0.out _ hD.rw_; have HD := Lib.hid hD; clear hD; clear hdr)))
        refine bodyPost_ret (v := .tuple #[.agg #[.slice At th.length ct, .slice As sv.length cs', .slice Ag gr.length cg, .int .i64 em, .int .i64 sd, .int .i64 dn, .int .i64 pk, .int .i64 co], .int .i64 24]) (by simp [results, Try.f24, go_sem, k0, k1, k2, k3, k4, k5, k6, k7, r0, r1, r2, r3, r4, r5, r6, r7, y0, y1, y2, y3, y4, y5, y6, y7]) rfl ?_
        exact HDN.out _ _ HE.out (by decide) (HD.out)
  · have hib : ((id : Int) == 1) = false := by simp; omega
    rw [show decide (id = 1) = false by simp [hi]] at hmy
    clear hi
    by_cases hq : (id : Int) = (cs.length : Int) - dn
    · have hqb : ((id : Int) != (cs.length : Int) - dn) = false := by simpa using hq
      rw [decide_eq_true hq] at hmy
      have HMY := Lib.hid hmy
      clear hmy hq
      cases GB <;> cases RD
      all_goals first | exact absurd HMY.out (by decide) | skip
      all_goals
        go_enter Try.func24, Try.ntmps24
        simp only [scells]
        go_upto_region 2 with (fail)
        rw [← HW.out]
        have hD := HDW.out
        have k0 := hD.k0; have k1 := hD.k1; have k2 := hD.k2; have k3 := hD.k3; have k4 := hD.k4; have k5 := hD.k5; have k6 := hD.k6; have k7 := hD.k7; have z0 := hD.kz 0; have z1 := hD.kz 1; have z2 := hD.kz 2; have z3 := hD.kz 3; have z4 := hD.kz 4; have z5 := hD.kz 5; have z6 := hD.kz 6; have z7 := hD.kz 7; have r0 := hD.r0; have r1 := hD.r1; have r2 := hD.r2; have r3 := hD.r3; have r4 := hD.r4; have r5 := hD.r5; have r6 := hD.r6; have r7 := hD.r7; have y0 := hD.rz 0; have y1 := hD.rz 1; have y2 := hD.rz 2; have y3 := hD.rz 3; have y4 := hD.rz 4; have y5 := hD.rz 5; have y6 := hD.rz 6; have y7 := hD.rz 7; have x0 := HX0.out _ hD.rw_; have HD := Lib.hid hD; clear hD
        go_wp2_with (go_at_call 35; first | ((with_reducible refine (HRD.out _ HD.out).mono ?_); (rintro e wn ⟨rfl, hdr⟩; have hD := HD.out.below hdr.below; clear k0 z0 r0 y0 k1 z1 r1 y1 k2 z2 r2 y2 k3 z3 r3 y3 k4 z4 r4 y4 k5 z5 r5 y5 k6 z6 r6 y6 k7 z7 r7 y7 x0 HD; have k0 := hD.k0; have k1 := hD.k1; have k2 := hD.k2; have k3 := hD.k3; have k4 := hD.k4; have k5 := hD.k5; have k6 := hD.k6; have k7 := hD.k7; have z0 := hD.kz 0; have z1 := hD.kz 1; have z2 := hD.kz 2; have z3 := hD.kz 3; have z4 := hD.kz 4; have z5 := hD.kz 5; have z6 := hD.kz 6; have z7 := hD.kz 7; have r0 := hD.r0; have r1 := hD.r1; have r2 := hD.r2; have r3 := hD.r3; have r4 := hD.r4; have r5 := hD.r5; have r6 := hD.r6; have r7 := hD.r7; have y0 := hD.rz 0; have y1 := hD.rz 1; have y2 := hD.rz 2; have y3 := hD.rz 3; have y4 := hD.rz 4; have y5 := hD.rz 5; have y6 := hD.rz 6; have y7 := hD.rz 7; have x0 := HX0.out _ hD.rw_; have HD := Lib.hid hD; clear hD; clear hdr)) | ((with_reducible refine (HGR.out _ HD.out).mono ?_); (rintro e wn ⟨rfl, hdr⟩; have hD := HD.out.below hdr.below; clear k0 z0 r0 y0 k1 z1 r1 y1 k2 z2 r2 y2 k3 z3 r3 y3 k4 z4 r4 y4 k5 z5 r5 y5 k6 z6 r6 y6 k7 z7 r7 y7 x0 HD; have k0 := hD.k0; have k1 := hD.k1; have k2 := hD.k2; have k3 := hD.k3; have k4 := hD.k4; have k5 := hD.k5; have k6 := hD.k6; have k7 := hD.k7; have z0 := hD.kz 0; have z1 := hD.kz 1; have z2 := hD.kz 2; have z3 := hD.kz 3; have z4 := hD.kz 4; have z5 := hD.kz 5; have z6 := hD.kz 6; have z7 := hD.kz 7; have r0 := hD.r0; have r1 := hD.r1; have r2 := hD.r2; have r3 := hD.r3; have r4 := hD.r4; have r5 := hD.r5; have r6 := hD.r6; have r7 := hD.r7; have y0 := hD.rz 0; have y1 := hD.rz 1; have y2 := hD.rz 2; have y3 := hD.rz 3; have y4 := hD.rz 4; have y5 := hD.rz 5; have y6 := hD.rz 6; have y7 := hD.rz 7; have x0 := HX0.out _ hD.rw_; have HD := Lib.hid hD; clear hD; clear hdr)))
        refine bodyPost_ret (v := .tuple #[.agg #[.slice At th.length ct, .slice As sv.length cs', .slice Ag gr.length cg, .int .i64 em, .int .i64 sd, .int .i64 dn, .int .i64 pk, .int .i64 co], .int .i64 24]) (by simp [results, Try.f24, go_sem, k0, k1, k2, k3, k4, k5, k6, k7, r0, r1, r2, r3, r4, r5, r6, r7, y0, y1, y2, y3, y4, y5, y6, y7]) rfl ?_
        exact HDN.out _ _ HE.out (by decide) (HD.out)
    · have hqb : ((id : Int) != (cs.length : Int) - dn) = true := by simpa using hq
      clear hmy hq
      cases GB <;> cases RD
      all_goals
        go_enter Try.func24, Try.ntmps24
        simp only [scells]
        go_upto_region 2 with (fail)
        rw [← HW.out]
        have hD := HDW.out
        have k0 := hD.k0; have k1 := hD.k1; have k2 := hD.k2; have k3 := hD.k3; have k4 := hD.k4; have k5 := hD.k5; have k6 := hD.k6; have k7 := hD.k7; have z0 := hD.kz 0; have z1 := hD.kz 1; have z2 := hD.kz 2; have z3 := hD.kz 3; have z4 := hD.kz 4; have z5 := hD.kz 5; have z6 := hD.kz 6; have z7 := hD.kz 7; have r0 := hD.r0; have r1 := hD.r1; have r2 := hD.r2; have r3 := hD.r3; have r4 := hD.r4; have r5 := hD.r5; have r6 := hD.r6; have r7 := hD.r7; have y0 := hD.rz 0; have y1 := hD.rz 1; have y2 := hD.rz 2; have y3 := hD.rz 3; have y4 := hD.rz 4; have y5 := hD.rz 5; have y6 := hD.rz 6; have y7 := hD.rz 7; have x0 := HX0.out _ hD.rw_; have HD := Lib.hid hD; clear hD
        go_wp2_with (go_at_call 35; first | ((with_reducible refine (HRD.out _ HD.out).mono ?_); (rintro e wn ⟨rfl, hdr⟩; have hD := HD.out.below hdr.below; clear k0 z0 r0 y0 k1 z1 r1 y1 k2 z2 r2 y2 k3 z3 r3 y3 k4 z4 r4 y4 k5 z5 r5 y5 k6 z6 r6 y6 k7 z7 r7 y7 x0 HD; have k0 := hD.k0; have k1 := hD.k1; have k2 := hD.k2; have k3 := hD.k3; have k4 := hD.k4; have k5 := hD.k5; have k6 := hD.k6; have k7 := hD.k7; have z0 := hD.kz 0; have z1 := hD.kz 1; have z2 := hD.kz 2; have z3 := hD.kz 3; have z4 := hD.kz 4; have z5 := hD.kz 5; have z6 := hD.kz 6; have z7 := hD.kz 7; have r0 := hD.r0; have r1 := hD.r1; have r2 := hD.r2; have r3 := hD.r3; have r4 := hD.r4; have r5 := hD.r5; have r6 := hD.r6; have r7 := hD.r7; have y0 := hD.rz 0; have y1 := hD.rz 1; have y2 := hD.rz 2; have y3 := hD.rz 3; have y4 := hD.rz 4; have y5 := hD.rz 5; have y6 := hD.rz 6; have y7 := hD.rz 7; have x0 := HX0.out _ hD.rw_; have HD := Lib.hid hD; clear hD; clear hdr)) | ((with_reducible refine (HGR.out _ HD.out).mono ?_); (rintro e wn ⟨rfl, hdr⟩; have hD := HD.out.below hdr.below; clear k0 z0 r0 y0 k1 z1 r1 y1 k2 z2 r2 y2 k3 z3 r3 y3 k4 z4 r4 y4 k5 z5 r5 y5 k6 z6 r6 y6 k7 z7 r7 y7 x0 HD; have k0 := hD.k0; have k1 := hD.k1; have k2 := hD.k2; have k3 := hD.k3; have k4 := hD.k4; have k5 := hD.k5; have k6 := hD.k6; have k7 := hD.k7; have z0 := hD.kz 0; have z1 := hD.kz 1; have z2 := hD.kz 2; have z3 := hD.kz 3; have z4 := hD.kz 4; have z5 := hD.kz 5; have z6 := hD.kz 6; have z7 := hD.kz 7; have r0 := hD.r0; have r1 := hD.r1; have r2 := hD.r2; have r3 := hD.r3; have r4 := hD.r4; have r5 := hD.r5; have r6 := hD.r6; have r7 := hD.r7; have y0 := hD.rz 0; have y1 := hD.rz 1; have y2 := hD.rz 2; have y3 := hD.rz 3; have y4 := hD.rz 4; have y5 := hD.rz 5; have y6 := hD.rz 6; have y7 := hD.rz 7; have x0 := HX0.out _ hD.rw_; have HD := Lib.hid hD; clear hD; clear hdr)))
        refine bodyPost_ret (v := .tuple #[.agg #[.slice At th.length ct, .slice As sv.length cs', .slice Ag gr.length cg, .int .i64 em, .int .i64 sd, .int .i64 dn, .int .i64 pk, .int .i64 co], .int .i64 24]) (by simp [results, Try.f24, go_sem, k0, k1, k2, k3, k4, k5, k6, k7, r0, r1, r2, r3, r4, r5, r6, r7, y0, y1, y2, y3, y4, y5, y6, y7]) rfl ?_
        exact HDN.out _ _ HE.out (by decide) (HD.out)
end Go.Proofs.Ytiejdbdbafmccaa
/- part PChx7 -/
namespace Go.Proofs.Ytiejdbdbafmccaa.PCh
open Go.RowKit Go.Proofs.YtiejdbdbafmccaaW.PrintWords Go.Proofs.YtiejdbdbafmccaaW.PrintLast Go.Proofs.YtiejdbdbafmccaaW.PrintMore
attribute [local go_sem] max2_int min2_int max_two min_two max_three min_three max_four min_four
set_option linter.unusedVariables false
set_option linter.unusedSimpArgs false
def athanorref17_Right.f (a0 : Int) (a1 : Int) : Option (Bool) := if a0 = 4 then (some (a1 == 0)) else (if a0 = 5 then (some (a1 == 0)) else (if a0 = 1 then (if a1 ≥ 1 then (some (decide (a1 ≤ 512))) else (some false)) else (if a0 = 2 then (if a1 ≥ 1 then (some (decide (a1 ≤ 512))) else (some false)) else (if a0 = 3 then (if a1 ≥ 1 then (some (decide (a1 ≤ 512))) else (some false)) else (if a0 = 6 then (if a1 ≥ 1 then (some (decide (a1 ≤ 512))) else (some false)) else (some false))))))
set_option maxHeartbeats 8000000 in
set_option maxRecDepth 100000 in
theorem athanorref17_Right.calls (a0 : Int) (a1 : Int) (r : Bool) (w : World) (h : athanorref17_Right.f a0 a1 = some r) :
    Calls Try.prog 23 #[.int .i64 a0, .int .i64 a1] w fun e w' => e = .returned (.bool r) ∧ Drawn0 w w' := by
  have H : (if a0 = 4 then (some (a1 == 0)) else (if a0 = 5 then (some (a1 == 0)) else (if a0 = 1 then (if a1 ≥ 1 then (some (decide (a1 ≤ 512))) else (some false)) else (if a0 = 2 then (if a1 ≥ 1 then (some (decide (a1 ≤ 512))) else (some false)) else (if a0 = 3 then (if a1 ≥ 1 then (some (decide (a1 ≤ 512))) else (some false)) else (if a0 = 6 then (if a1 ≥ 1 then (some (decide (a1 ≤ 512))) else (some false)) else (some false))))))) = some r := h
  clear h
  by_cases c3 : a0 = 4
  · rw [if_pos c3] at H
    have c3b0 : (a0 == 4) = true := beq_iff_eq.mpr c3
    have c3b1 : (a0 != 4) = false := bne_eq_false_iff_eq.mpr c3
    clear c3
    obtain rfl := Option.some.inj H
    go_enter Try.func23, Try.ntmps23
    go_wp2
    go_ret
    exact ⟨by first | rfl | (simp; done) | (simp [*]; done), by repeat (first | exact Drawn0.refl _ | apply Drawn0.step)⟩
  · rw [if_neg c3] at H
    have c3b0 : (a0 == 4) = false := beq_eq_false_iff_ne.mpr c3
    have c3b1 : (a0 != 4) = true := bne_iff_ne.mpr c3
    by_cases c4 : a0 = 5
    · rw [if_pos c4] at H
      have c4b0 : (a0 == 5) = true := beq_iff_eq.mpr c4
      have c4b1 : (a0 != 5) = false := bne_eq_false_iff_eq.mpr c4
      clear c4
      obtain rfl := Option.some.inj H
      go_enter Try.func23, Try.ntmps23
      go_wp2
      go_ret
      exact ⟨by first | rfl | (simp; done) | (simp [*]; done), by repeat (first | exact Drawn0.refl _ | apply Drawn0.step)⟩
    · rw [if_neg c4] at H
      have c4b0 : (a0 == 5) = false := beq_eq_false_iff_ne.mpr c4
      have c4b1 : (a0 != 5) = true := bne_iff_ne.mpr c4
      by_cases c5 : a0 = 1
      · rw [if_pos c5] at H
        have c5b0 : (a0 == 1) = true := beq_iff_eq.mpr c5
        have c5b1 : (a0 != 1) = false := bne_eq_false_iff_eq.mpr c5
        clear c5
        by_cases c6 : a1 ≥ 1
        · rw [if_pos c6] at H
          have c6b0 : decide (1 ≤ a1) = true := decide_eq_true c6
          clear c6
          obtain rfl := Option.some.inj H
          go_enter Try.func23, Try.ntmps23
          go_wp2
          go_ret
          exact ⟨by first | rfl | (simp; done) | (simp [*]; done), by repeat (first | exact Drawn0.refl _ | apply Drawn0.step)⟩
        · rw [if_neg c6] at H
          have c6b0 : decide (1 ≤ a1) = false := decide_eq_false c6
          clear c6
          obtain rfl := Option.some.inj H
          go_enter Try.func23, Try.ntmps23
          go_wp2
          go_ret
          exact ⟨by first | rfl | (simp; done) | (simp [*]; done), by repeat (first | exact Drawn0.refl _ | apply Drawn0.step)⟩
      · rw [if_neg c5] at H
        have c5b0 : (a0 == 1) = false := beq_eq_false_iff_ne.mpr c5
        have c5b1 : (a0 != 1) = true := bne_iff_ne.mpr c5
        by_cases c7 : a0 = 2
        · rw [if_pos c7] at H
          have c7b0 : (a0 == 2) = true := beq_iff_eq.mpr c7
          have c7b1 : (a0 != 2) = false := bne_eq_false_iff_eq.mpr c7
          clear c7
          by_cases c8 : a1 ≥ 1
          · rw [if_pos c8] at H
            have c8b0 : decide (1 ≤ a1) = true := decide_eq_true c8
            clear c8
            obtain rfl := Option.some.inj H
            go_enter Try.func23, Try.ntmps23
            go_wp2
            go_ret
            exact ⟨by first | rfl | (simp; done) | (simp [*]; done), by repeat (first | exact Drawn0.refl _ | apply Drawn0.step)⟩
          · rw [if_neg c8] at H
            have c8b0 : decide (1 ≤ a1) = false := decide_eq_false c8
            clear c8
            obtain rfl := Option.some.inj H
            go_enter Try.func23, Try.ntmps23
            go_wp2
            go_ret
            exact ⟨by first | rfl | (simp; done) | (simp [*]; done), by repeat (first | exact Drawn0.refl _ | apply Drawn0.step)⟩
        · rw [if_neg c7] at H
          have c7b0 : (a0 == 2) = false := beq_eq_false_iff_ne.mpr c7
          have c7b1 : (a0 != 2) = true := bne_iff_ne.mpr c7
          by_cases c9 : a0 = 3
          · rw [if_pos c9] at H
            have c9b0 : (a0 == 3) = true := beq_iff_eq.mpr c9
            have c9b1 : (a0 != 3) = false := bne_eq_false_iff_eq.mpr c9
            clear c9
            by_cases c10 : a1 ≥ 1
            · rw [if_pos c10] at H
              have c10b0 : decide (1 ≤ a1) = true := decide_eq_true c10
              clear c10
              obtain rfl := Option.some.inj H
              go_enter Try.func23, Try.ntmps23
              go_wp2
              go_ret
              exact ⟨by first | rfl | (simp; done) | (simp [*]; done), by repeat (first | exact Drawn0.refl _ | apply Drawn0.step)⟩
            · rw [if_neg c10] at H
              have c10b0 : decide (1 ≤ a1) = false := decide_eq_false c10
              clear c10
              obtain rfl := Option.some.inj H
              go_enter Try.func23, Try.ntmps23
              go_wp2
              go_ret
              exact ⟨by first | rfl | (simp; done) | (simp [*]; done), by repeat (first | exact Drawn0.refl _ | apply Drawn0.step)⟩
          · rw [if_neg c9] at H
            have c9b0 : (a0 == 3) = false := beq_eq_false_iff_ne.mpr c9
            have c9b1 : (a0 != 3) = true := bne_iff_ne.mpr c9
            by_cases c11 : a0 = 6
            · rw [if_pos c11] at H
              have c11b0 : (a0 == 6) = true := beq_iff_eq.mpr c11
              have c11b1 : (a0 != 6) = false := bne_eq_false_iff_eq.mpr c11
              clear c11
              by_cases c12 : a1 ≥ 1
              · rw [if_pos c12] at H
                have c12b0 : decide (1 ≤ a1) = true := decide_eq_true c12
                clear c12
                obtain rfl := Option.some.inj H
                go_enter Try.func23, Try.ntmps23
                go_wp2
                go_ret
                exact ⟨by first | rfl | (simp; done) | (simp [*]; done), by repeat (first | exact Drawn0.refl _ | apply Drawn0.step)⟩
              · rw [if_neg c12] at H
                have c12b0 : decide (1 ≤ a1) = false := decide_eq_false c12
                clear c12
                obtain rfl := Option.some.inj H
                go_enter Try.func23, Try.ntmps23
                go_wp2
                go_ret
                exact ⟨by first | rfl | (simp; done) | (simp [*]; done), by repeat (first | exact Drawn0.refl _ | apply Drawn0.step)⟩
            · rw [if_neg c11] at H
              have c11b0 : (a0 == 6) = false := beq_eq_false_iff_ne.mpr c11
              have c11b1 : (a0 != 6) = true := bne_iff_ne.mpr c11
              obtain rfl := Option.some.inj H
              go_enter Try.func23, Try.ntmps23
              go_wp2
              go_ret
              exact ⟨by first | rfl | (simp; done) | (simp [*]; done), by repeat (first | exact Drawn0.refl _ | apply Drawn0.step)⟩
end Go.Proofs.Ytiejdbdbafmccaa.PCh
/- part ChRw -/
namespace Go.Proofs.Ytiejdbdbafmccaa.PCh
open Go.RowKit Go.Proofs.YtiejdbdbafmccaaW.PrintWords Go.Proofs.YtiejdbdbafmccaaW.PrintLast Go.Proofs.Ytiejdbdbafmccaa
theorem do_ref {w : World} {A0 : Option Addr} {c0 : Nat} {A1 : Option Addr} {c1 : Nat} {ws cs : List Int} {cap : Int} {At : Option Addr} {ct : Nat} {As : Option Addr} {cs' : Nat} {Ag : Option Addr} {cg : Nat} {th sv gr : List Int} {em sd dn pk co : Int} {t : Nat} {x : Wk} (h : DoPre w A0 c0 A1 c1 ws cs cap At ct As cs' Ag cg th sv gr em sd dn pk co t x) (k : Int) (id : Nat) (hk : OkI cs.length k id) (hz : k = 4 ∨ k = 5 → id = 0) :
    Calls Try.prog 24 #[.slice A0 ws.length c0, .slice A1 cs.length c1, .int .i64 cap, .agg (scells At ct As cs' Ag cg th sv gr em sd dn pk co), .int .i64 k, .int .i64 (id : Int)] w (DoR w ws cs cap (t + 1) (doW x ws cs cap k id)) := by
  rcases hk.kd with e | e | e | e | e | e
  · subst e
    cases hm : mayB x cs.length 1 id with
    | false => exact do_bad1 h id hk hm
    | true => exact do_good12 h 1 (Or.inl rfl) id hk hm
  · subst e
    cases hm : mayB x cs.length 2 id with
    | false => exact do_bad2 h id hk hm
    | true => exact do_good12 h 2 (Or.inr rfl) id hk hm
  · subst e
    exact do_k3 h id hk
  · obtain rfl := hz (Or.inl e)
    subst e
    exact do_k4 h
  · obtain rfl := hz (Or.inr e)
    subst e
    exact do_k5 h
  · subst e
    cases hm : mayB x cs.length 6 id with
    | false => exact do_bad6 h id hk hm
    | true => exact do_good6 h id hk hm
theorem ref17_f (k id : Int) : athanorref17_Right.f k id = some (instrB k id) := by
  unfold athanorref17_Right.f instrB
  by_cases h4 : k = 4
  · rw [if_pos h4, if_pos (Or.inl h4)]
    congr 1
  by_cases h5 : k = 5
  · rw [if_neg h4, if_pos h5, if_pos (Or.inr h5)]
    congr 1
  rw [if_neg h4, if_neg h5, if_neg (c := k = 4 ∨ k = 5) (by omega)]
  have e : (if id ≥ 1 then some (decide (id ≤ 512)) else some false) = some (decide (1 ≤ id ∧ id ≤ 512)) := by
    by_cases hi : id ≥ 1
    · rw [if_pos hi]
      congr 1
      rw [Bool.eq_iff_iff]
      simp
      omega
    · rw [if_neg hi]
      congr 1
      exact (decide_eq_false (by omega)).symm
  by_cases h1 : k = 1
  · rw [if_pos h1, if_pos (Or.inl h1), e]
  by_cases h2 : k = 2
  · rw [if_neg h1, if_pos h2, if_pos (Or.inr (Or.inl h2)), e]
  by_cases h3 : k = 3
  · rw [if_neg h1, if_neg h2, if_pos h3, if_pos (Or.inr (Or.inr (Or.inl h3))), e]
  by_cases h6 : k = 6
  · rw [if_neg h1, if_neg h2, if_neg h3, if_pos h6, if_pos (Or.inr (Or.inr (Or.inr h6))), e]
  · rw [if_neg h1, if_neg h2, if_neg h3, if_neg h6, if_neg (by omega)]
def badW (n : Nat) (y : S63) : Bool := !instrB y.f0 y.f1 || decide ((n : Int) < y.f1)
def walkR (ws cs : List Int) (cap : Int) (p : List S63) : Int × Int × Int := if p.any (badW cs.length) = true then (0, 0, 10) else endW cs.length (runW ws cs cap p wk0)
def athanorlaw20_walk.f (l0_0 l0_1 : List Int) (a1 : Int) (l2 : List S63) : Option (Int × Int × Int) := if rightB l0_0 l0_1 = true ∧ l2.length ≤ 100000 ∧ -9223372036854775808 ≤ a1 ∧ a1 ≤ 9223372036854775807 then some (walkR l0_0 l0_1 a1 l2) else none
theorem ok_of_bad {n : Nat} (hn : n ≤ 64) {y : S63} (h : badW n y = false) : 0 ≤ y.f1 ∧ OkI n y.f0 y.f1.toNat ∧ (y.f0 = 4 ∨ y.f0 = 5 → y.f1.toNat = 0) := by
  unfold badW at h
  rw [Bool.or_eq_false_iff] at h
  obtain ⟨h1, h2⟩ := h
  have h3 := of_decide_eq_false h2
  have h4 : instrB y.f0 y.f1 = true := by simpa using h1
  unfold instrB at h4
  split at h4
  · have := of_decide_eq_true h4
    exact ⟨by omega, ⟨by omega, fun a b => by omega, by omega⟩, fun _ => by omega⟩
  · split at h4
    · have := of_decide_eq_true h4
      exact ⟨by omega, ⟨by omega, fun a b => by omega, by omega⟩, fun hh => by omega⟩
    · cases h4
structure LI (w : World) (A0 : Option Addr) (c0 : Nat) (A1 : Option Addr) (c1 : Nat) (ws cs : List Int) (cap : Int) (p : List S63) (At : Option Addr) (ct : Nat) (As : Option Addr) (cs' : Nat) (Ag : Option Addr) (cg : Nat) (s : RSt) (j : Nat) (x : Wk) (wr : World) : Prop where
  bx : Blk wr w.heap.size 24 #[.slice A0 ws.length c0, .slice A1 cs.length c1]
  st : Blk wr (w.heap.size + 1) 61 (scells At ct As cs' Ag cg s.th s.sv s.gr s.em s.sd s.dn s.pk s.ct)
  rt : LT wr At s.th
  rs : LT wr As s.sv
  rg : LT wr Ag s.gr
  lt : s.th.length ≤ ct
  ls : s.sv.length ≤ cs'
  lg : s.gr.length ≤ cg
  bl : Below w.heap.size w wr
  rel : Rel ws cs.length cap j s x
  bd : BdW j x
  eq : runW ws cs cap p wk0 = runW ws cs cap (p.drop j) x
section
variable {w wr w' : World} {A0 A1 : Option Addr} {c0 c1 : Nat} {ws cs : List Int} {cap : Int} {p : List S63} {At As Ag : Option Addr} {ct cs' cg : Nat} {s : RSt} {j : Nat} {x : Wk}
theorem LI.below (h : LI w A0 c0 A1 c1 ws cs cap p At ct As cs' Ag cg s j x wr) (hb : Below wr.heap.size wr w') : LI w A0 c0 A1 c1 ws cs cap p At ct As cs' Ag cg s j x w' :=
  ⟨h.bx.below hb h.bx.lt, h.st.below hb h.st.lt, h.rt.below hb (Nat.le_refl _), h.rs.below hb (Nat.le_refl _), h.rg.below hb (Nat.le_refl _), h.lt, h.ls, h.lg, h.bl.trans (hb.mono h.bl.size), h.rel, h.bd, h.eq⟩
theorem LI.pre (h : LI w A0 c0 A1 c1 ws cs cap p At ct As cs' Ag cg s j x wr) (ht : Rt ws cs) (h0 : (Kd.int .i64).C w A0 ws.length ws) (hc0 : ws.length ≤ c0) (h1 : (Kd.int .i64).C w A1 cs.length cs) (hc1 : cs.length ≤ c1) (hj : j ≤ 200000) (hcp : -9223372036854775808 ≤ cap ∧ cap ≤ 9223372036854775807) : DoPre wr A0 c0 A1 c1 ws cs cap At ct As cs' Ag cg s.th s.sv s.gr s.em s.sd s.dn s.pk s.ct j x :=
  ⟨Kd.C_below h0 h.bl, hc0, Kd.C_below h1 h.bl, hc1, h.rt, h.rs, h.rg, h.lt, h.ls, h.lg, h.rel, h.bd, hj, ht, hcp⟩
theorem LI.next {At2 As2 Ag2 : Option Addr} {ct2 cs2 cg2 : Nat} {s2 : RSt} {x2 : Wk} (h : LI w A0 c0 A1 c1 ws cs cap p At ct As cs' Ag cg s j x wr) (hrt : LT wr At2 s2.th) (hrs : LT wr As2 s2.sv) (hrg : LT wr Ag2 s2.gr) (hlt : s2.th.length ≤ ct2) (hls : s2.sv.length ≤ cs2) (hlg : s2.gr.length ≤ cg2) (hrel : Rel ws cs.length cap (j + 1) s2 x2) (hbd : BdW (j + 1) x2) (heq : runW ws cs cap p wk0 = runW ws cs cap (p.drop (j + 1)) x2) :
    LI w A0 c0 A1 c1 ws cs cap p At2 ct2 As2 cs2 Ag2 cg2 s2 (j + 1) x2 ((((((((wr.setCell ⟨w.heap.size + 1, 0, none⟩ (.slice At2 s2.th.length ct2)).setCell ⟨w.heap.size + 1, 1, none⟩ (.slice As2 s2.sv.length cs2)).setCell ⟨w.heap.size + 1, 2, none⟩ (.slice Ag2 s2.gr.length cg2)).setCell ⟨w.heap.size + 1, 3, none⟩ (.int .i64 s2.em)).setCell ⟨w.heap.size + 1, 4, none⟩ (.int .i64 s2.sd)).setCell ⟨w.heap.size + 1, 5, none⟩ (.int .i64 s2.dn)).setCell ⟨w.heap.size + 1, 6, none⟩ (.int .i64 s2.pk)).setCell ⟨w.heap.size + 1, 7, none⟩ (.int .i64 s2.ct)) := by
  have b0 := h.st.set_ 0 (.slice At2 s2.th.length ct2)
  have b1 := b0.set_ 1 (.slice As2 s2.sv.length cs2)
  have b2 := b1.set_ 2 (.slice Ag2 s2.gr.length cg2)
  have b3 := b2.set_ 3 (.int .i64 s2.em)
  have b4 := b3.set_ 4 (.int .i64 s2.sd)
  have b5 := b4.set_ 5 (.int .i64 s2.dn)
  have b6 := b5.set_ 6 (.int .i64 s2.pk)
  have b7 := b6.set_ 7 (.int .i64 s2.ct)
  simp only [scells, List.setIfInBounds_toArray, List.set_cons_zero, List.set_cons_succ] at b7
  have hne : 61 ≠ 3 := by decide
  have st : ∀ {A : Option Addr} {l : List Int}, LT wr A l → LT ((((((((wr.setCell ⟨w.heap.size + 1, 0, none⟩ (.slice At2 s2.th.length ct2)).setCell ⟨w.heap.size + 1, 1, none⟩ (.slice As2 s2.sv.length cs2)).setCell ⟨w.heap.size + 1, 2, none⟩ (.slice Ag2 s2.gr.length cg2)).setCell ⟨w.heap.size + 1, 3, none⟩ (.int .i64 s2.em)).setCell ⟨w.heap.size + 1, 4, none⟩ (.int .i64 s2.sd)).setCell ⟨w.heap.size + 1, 5, none⟩ (.int .i64 s2.dn)).setCell ⟨w.heap.size + 1, 6, none⟩ (.int .i64 s2.pk)).setCell ⟨w.heap.size + 1, 7, none⟩ (.int .i64 s2.ct)) A l := fun q =>
    (((((((q.set h.st hne 0 _).set b0 hne 1 _).set b1 hne 2 _).set b2 hne 3 _).set b3 hne 4 _).set b4 hne 5 _).set b5 hne 6 _).set b6 hne 7 _
  have n1 : w.heap.size ≠ w.heap.size + 1 := by omega
  have n2 : w.heap.size ≤ w.heap.size + 1 := by omega
  exact ⟨(((((((h.bx.far (p := ⟨w.heap.size + 1, 0, none⟩) n1 _).far (p := ⟨w.heap.size + 1, 1, none⟩) n1 _).far (p := ⟨w.heap.size + 1, 2, none⟩) n1 _).far (p := ⟨w.heap.size + 1, 3, none⟩) n1 _).far (p := ⟨w.heap.size + 1, 4, none⟩) n1 _).far (p := ⟨w.heap.size + 1, 5, none⟩) n1 _).far (p := ⟨w.heap.size + 1, 6, none⟩) n1 _).far (p := ⟨w.heap.size + 1, 7, none⟩) n1 _,
    b7, st hrt, st hrs, st hrg, hlt, hls, hlg,
    (((((((h.bl.setCell (p := ⟨w.heap.size + 1, 0, none⟩) n2 _).setCell (p := ⟨w.heap.size + 1, 1, none⟩) n2 _).setCell (p := ⟨w.heap.size + 1, 2, none⟩) n2 _).setCell (p := ⟨w.heap.size + 1, 3, none⟩) n2 _).setCell (p := ⟨w.heap.size + 1, 4, none⟩) n2 _).setCell (p := ⟨w.heap.size + 1, 5, none⟩) n2 _).setCell (p := ⟨w.heap.size + 1, 6, none⟩) n2 _).setCell (p := ⟨w.heap.size + 1, 7, none⟩) n2 _,
    hrel, hbd, heq⟩
end
structure DoL (w : World) (ws cs : List Int) (cap : Int) (t : Nat) (R : Wk × Int) (e : Ending) (w' : World) : Prop where
  ex : ∃ (At : Option Addr) (ct : Nat) (As : Option Addr) (cs' : Nat) (Ag : Option Addr) (cg : Nat) (th sv gr : List Int) (em sd dn pk co : Int), e = .returned (.tuple #[.agg #[.slice At th.length ct, .slice As sv.length cs', .slice Ag gr.length cg, .int .i64 em, .int .i64 sd, .int .i64 dn, .int .i64 pk, .int .i64 co], .int .i64 R.2]) ∧ (R.2 = 0 → Rel ws cs.length cap t ⟨th, sv, gr, em, sd, dn, pk, co⟩ R.1 ∧ LT w' At th ∧ LT w' As sv ∧ LT w' Ag gr ∧ th.length ≤ ct ∧ sv.length ≤ cs' ∧ gr.length ≤ cg)
  bl : Below w.heap.size w w'
theorem DoR.lit {w : World} {ws cs : List Int} {cap : Int} {t : Nat} {R : Wk × Int} {e : Ending} {w' : World} (h : DoR w ws cs cap t R e w') : DoL w ws cs cap t R e w' := by
  obtain ⟨At, ct, As, cs', Ag, cg, s, he, hs⟩ := h.ex
  exact ⟨⟨At, ct, As, cs', Ag, cg, s.th, s.sv, s.gr, s.em, s.sd, s.dn, s.pk, s.ct, he, hs⟩, h.bl⟩
set_option maxRecDepth 100000 in
set_option maxHeartbeats 8000000 in
theorem athanorlaw20_walk.calls (A0_0 : Option Addr) (c0_0 : Nat) (l0_0 : List Int) (A0_1 : Option Addr) (c0_1 : Nat) (l0_1 : List Int) (a1 : Int) (A2 : Option Addr) (c2 : Nat) (l2 : List S63) (r1 r2 r3 : Int) (w : World) (hr0_0 : Kd.C (Kd.int .i64) w A0_0 l0_0.length l0_0) (hc0_0 : l0_0.length ≤ c0_0) (hr0_1 : Kd.C (Kd.int .i64) w A0_1 l0_1.length l0_1) (hc0_1 : l0_1.length ≤ c0_1) (hr2 : Kd.C k63 w A2 l2.length l2) (hc2 : l2.length ≤ c2) (h : athanorlaw20_walk.f l0_0 l0_1 a1 l2 = some (r1, r2, r3)) :
    Calls Try.prog 12 #[.agg #[.slice A0_0 l0_0.length c0_0, .slice A0_1 l0_1.length c0_1], .int .i64 a1, .slice A2 l2.length c2] w fun e w' => e = .returned (.tuple #[.int .i64 r1, .int .i64 r2, .int .i64 r3]) ∧ Below w.heap.size w w' := by
  unfold athanorlaw20_walk.f at h
  split at h
  case isFalse => cases h
  case isTrue hcond =>
  obtain ⟨hrb, hl2, hcp⟩ := hcond
  injection h with h
  have ht := rt_of_right hrb
  have hhi := ht.hi
  obtain ⟨W, hW⟩ : ∃ W, W = (w.alloc (.cells #[.slice A0_0 l0_0.length c0_0, .slice A0_1 l0_1.length c0_1] 24)).alloc (.cells #[.slice none 0 0, .slice none 0 0, .slice none 0 0, .int .i64 0, .int .i64 0, .int .i64 0, .int .i64 0, .int .i64 0] 61) := ⟨_, rfl⟩
  have hbW : Below w.heap.size w W := by rw [hW]; exact ((Below.refl _ _).alloc (Nat.le_refl _) _).alloc (by simp) _
  have hI0 : LI w A0_0 c0_0 A0_1 c0_1 l0_0 l0_1 a1 l2 none 0 none 0 none 0 ⟨[], [], [], 0, 0, 0, 0, 0⟩ 0 wk0 W := by
    refine ⟨by rw [hW]; exact (Blk.new _ _ _).alloc _, ?_, LT.nil _ _, LT.nil _ _, LT.nil _ _, Nat.le_refl _, Nat.le_refl _, Nat.le_refl _, hbW, Rel.start _ _ _, ⟨by simp [wk0], by simp [wk0], by simp [wk0], by simp [wk0]⟩, rfl⟩
    rw [hW]
    have := Blk.new (w.alloc (.cells #[.slice A0_0 l0_0.length c0_0, .slice A0_1 l0_1.length c0_1] 24)) 61 #[.slice none 0 0, .slice none 0 0, .slice none 0 0, .int .i64 0, .int .i64 0, .int .i64 0, .int .i64 0, .int .i64 0]
    rw [show (w.alloc (.cells #[.slice A0_0 l0_0.length c0_0, .slice A0_1 l0_1.length c0_1] 24)).heap.size = w.heap.size + 1 by simp] at this
    exact this
  have HC2 := Lib.hid hr2
  have m2 := hr2.2.1
  have m1 := hr0_1.2.1
  have p0 := hI0.bx.cell 0
  have p1 := hI0.bx.cell 1
  simp only [List.getElem?_toArray, List.getElem?_cons_zero, List.getElem?_cons_succ] at p0 p1
  have HI0 := Lib.hid hI0
  have HW := Lib.hid hW
  have HBW := Lib.hid hbW
  have HX : Hid (walkR l0_0 l0_1 a1 l2 = (r1, r2, r3)) := Lib.hid h
  have HDO : Hid (∀ (At : Option Addr) (ct : Nat) (As : Option Addr) (cs' : Nat) (Ag : Option Addr) (cg : Nat) (s : RSt) (j : Nat) (x : Wk) (wr : World) (y : S63), LI w A0_0 c0_0 A0_1 c0_1 l0_0 l0_1 a1 l2 At ct As cs' Ag cg s j x wr → j ≤ 200000 → badW l0_1.length y = false → Calls Try.prog 24 #[.slice A0_0 l0_0.length c0_0, .slice A0_1 l0_1.length c0_1, .int .i64 a1, .agg #[.slice At s.th.length ct, .slice As s.sv.length cs', .slice Ag s.gr.length cg, .int .i64 s.em, .int .i64 s.sd, .int .i64 s.dn, .int .i64 s.pk, .int .i64 s.ct], .int .i64 y.f0, .int .i64 y.f1] wr (DoL wr l0_0 l0_1 a1 (j + 1) (doW x l0_0 l0_1 a1 y.f0 y.f1.toNat))) := Lib.hid fun At ct As cs' Ag cg s j x wr y hI hj hy => by
    obtain ⟨q1, q2, q3⟩ := ok_of_bad hhi hy
    have q := do_ref (hI.pre ht hr0_0 hc0_0 hr0_1 hc0_1 hj hcp) y.f0 y.f1.toNat q2 q3
    rw [show ((y.f1.toNat : Nat) : Int) = y.f1 from by omega] at q
    exact q.mono fun _ _ hh => DoR.lit hh
  have HR17 : Hid (∀ (k id : Int) (wr : World), Calls Try.prog 23 #[.int .i64 k, .int .i64 id] wr fun e w' => e = .returned (.bool (instrB k id)) ∧ Drawn0 wr w') := Lib.hid fun k id wr => athanorref17_Right.calls k id (instrB k id) wr (ref17_f k id)
  have HBD : Hid (∀ (j : Nat) (x : Wk) (y : S63), BdW j x → BdW (j + 1) (doW x l0_0 l0_1 a1 y.f0 y.f1.toNat).1) := Lib.hid fun j x y hb => do_bd ht hb a1 y.f0 y.f1.toNat
  have HL2 := Lib.hid hl2
  clear h hrb hcp ht hW hbW hI0 hr0_0 hc0_0 hr0_1 hc0_1 hr2 hc2 hl2
  go_enter Try.func12, Try.ntmps12
  go_upto_region 2 with (fail)
  rw [← HW.out]
  clear HW
  go_wp2_with fail
  go_loopw [17] (fun i wr => ∃ k : Nat, k ≤ l2.length ∧ i = .int .i64 k ∧ Hid ((l2.take k).any (badW l0_1.length) = false) ∧ Below W.heap.size W wr) (fun i _ => l2.length - (intOf i).toNat)
  case atStart => exact ⟨0, by omega, rfl, (by simp : (l2.take 0).any (badW l0_1.length) = false), Below.refl _ _⟩
  case round =>
    obtain ⟨k, hk, rfl, HQ, hbw⟩ := hrel
    by_cases hlt : k < l2.length
    · obtain ⟨b, o, rfl, hb, hc⟩ := C2_at HC2.out (by omega)
      have hck := hc k hlt
      have hbw0 := HBW.out.trans (hbw.mono HBW.out.size)
      have h0 := (hbw0.cell (p := ⟨b, o + k * 2, none⟩) hb).trans hck.1
      have h1 := (hbw0.cell (p := ⟨b, o + k * 2 + 1, none⟩) hb).trans hck.2
      have hPr := HI0.out.bx.below (hbw.alloc hbw.size (.cells #[.int .i64 l2[k].f0, .int .i64 l2[k].f1] 63)) HI0.out.bx.lt
      have p1 := hPr.cell 1
      simp only [List.getElem?_toArray, List.getElem?_cons_zero, List.getElem?_cons_succ] at p1
      have HSN := Lib.hid (List.take_succ_eq_append_getElem hlt)
      have HMM := Lib.hid (List.getElem_mem hlt)
      have HBR := Lib.hid hbw
      have HB0 := Lib.hid hbw0
      clear hc hck hbw hPr p0 hbw0
      generalize l2[k] = y at *
      obtain ⟨yk, yi⟩ := y
      simp only at h0 h1 p1
      have HY := Lib.hid (show badW l0_1.length ⟨yk, yi⟩ = (!instrB yk yi || decide ((l0_1.length : Int) < yi)) from rfl)
      have HCC := Lib.hid (HR17.out yk yi)
      cases hib : instrB yk yi with
      | false =>
        rw [hib] at HCC HY
        have HBY := Lib.hid (HY.out.trans (by rfl : _ = true))
        have HXX := Lib.hid (show (0, 0, 10) = (r1, r2, r3) by
          have hx := HX.out
          unfold walkR at hx
          rw [if_pos (List.any_eq_true.2 ⟨_, HMM.out, HBY.out⟩)] at hx
          exact hx)
        clear hib
        go_wp2_with (go_at_call 23; refine (HCC.out _).mono ?_; rintro e w1 ⟨rfl, hd⟩; have HD1 := Lib.hid hd.below; clear hd)
        go_ret3
        have hx := HXX.out
        injection hx with e1 hx
        injection hx with e2 e3
        exact ⟨by rw [← e1, ← e2, ← e3]; rfl, (HB0.out.alloc HB0.out.size _).trans (HD1.out.mono (HB0.out.alloc HB0.out.size _).size)⟩
      | true =>
        rw [hib] at HCC HY
        clear hib
        by_cases hov : (l0_1.length : Int) < yi
        · have HBY := Lib.hid (HY.out.trans (by rw [decide_eq_true hov]; rfl : _ = true))
          have HXX := Lib.hid (show (0, 0, 10) = (r1, r2, r3) by
            have hx := HX.out
            unfold walkR at hx
            rw [if_pos (List.any_eq_true.2 ⟨_, HMM.out, HBY.out⟩)] at hx
            exact hx)
          go_wp2_with (go_at_call 23; refine (HCC.out _).mono ?_; rintro e w1 ⟨rfl, ⟨⟨nd, rfl⟩⟩⟩)
          go_ret3
          have hx := HXX.out
          injection hx with e1 hx
          injection hx with e2 e3
          exact ⟨by rw [← e1, ← e2, ← e3]; rfl, (Drawn0.mk ⟨nd, rfl⟩ : Drawn0 _ _).below.mono (HB0.out.alloc HB0.out.size _).size |> (HB0.out.alloc HB0.out.size _).trans⟩
        · have HBY := Lib.hid (HY.out.trans (by rw [decide_eq_false hov]; rfl : _ = false))
          go_wp2_with (go_at_call 23; refine (HCC.out _).mono ?_; rintro e w1 ⟨rfl, ⟨⟨nd, rfl⟩⟩⟩)
          go_roundw
          case rel => exact ⟨k + 1, by omega, by go_num, (by rw [HSN.out, List.any_append, HQ.out]; simp [HBY.out] : (l2.take (k + 1)).any (badW l0_1.length) = false), (HBR.out.alloc HBR.out.size _).trans ((Drawn0.mk ⟨nd, rfl⟩ : Drawn0 _ _).below.mono (HBR.out.alloc HBR.out.size _).size)⟩
          case measure => simp [intOf]; omega
    · obtain rfl : k = l2.length := by omega
      have hq := HQ.out
      rw [List.take_length] at hq
      have HQ2 := Lib.hid hq
      have HI1 := Lib.hid (HI0.out.below hbw)
      have HXX := Lib.hid (show endW l0_1.length (runW l0_0 l0_1 a1 l2 wk0) = (r1, r2, r3) by
        have hx := HX.out
        unfold walkR at hx
        rw [if_neg (by rw [hq]; decide)] at hx
        exact hx)
      clear HQ hq hbw p0 p1 hlt HI0 HX
      obtain ⟨wo, rfl⟩ : ∃ wo : World, wo = wr := ⟨_, rfl⟩
      go_wp2_with fail
      go_loopw [38] (fun i wr => ∃ (j : Nat) (At : Option Addr) (ct : Nat) (As : Option Addr) (cs' : Nat) (Ag : Option Addr) (cg : Nat) (s : RSt) (x : Wk), j ≤ l2.length ∧ i = .int .i64 j ∧ LI w A0_0 c0_0 A0_1 c0_1 l0_0 l0_1 a1 l2 At ct As cs' Ag cg s j x wr) (fun i _ => l2.length - (intOf i).toNat)
      case atStart => exact ⟨0, _, _, _, _, _, _, _, _, Nat.zero_le _, rfl, HI1.out⟩
      case round =>
        obtain ⟨j, At, ct, As, cs', Ag, cg, s, x, hj, rfl, hI⟩ := hrel
        clear HI1
        obtain ⟨th, sv, gr, em, sd, dn, pk, co⟩ := s
        by_cases hlt : j < l2.length
        · obtain ⟨b, o, rfl, hbk, hc⟩ := C2_at HC2.out (by omega)
          have hck := hc j hlt
          have h0 := (hI.bl.cell (p := ⟨b, o + j * 2, none⟩) hbk).trans hck.1
          have h1 := (hI.bl.cell (p := ⟨b, o + j * 2 + 1, none⟩) hbk).trans hck.2
          have hdr : l2.drop j = l2[j] :: l2.drop (j + 1) := List.drop_eq_getElem_cons hlt
          have heq := hI.eq
          rw [hdr, runW_cons] at heq
          have hgood : badW l0_1.length l2[j] = false := by
            cases hg : badW l0_1.length l2[j] with
            | false => rfl
            | true => exact absurd (List.any_eq_true.2 ⟨_, List.getElem_mem hlt, hg⟩) (by rw [HQ2.out]; decide)
          have hIa := hI.below ((Below.refl _ _).alloc (Nat.le_refl _) (.cells #[.int .i64 l2[j].f0, .int .i64 l2[j].f1] 63))
          have hdo := HDO.out At ct As cs' Ag cg ⟨th, sv, gr, em, sd, dn, pk, co⟩ j x _ l2[j] hIa (by have := HL2.out; omega) hgood
          have hbd := HBD.out j x l2[j] hI.bd
          have k0 := hIa.bx.cell 0
          have k1 := hIa.bx.cell 1
          simp only [List.getElem?_toArray, List.getElem?_cons_zero, List.getElem?_cons_succ] at k0 k1
          have s0 : (wr.alloc (.cells #[.int .i64 l2[j].f0, .int .i64 l2[j].f1] 63)).cell? ⟨w.heap.size + 1, 0, none⟩ = some (.slice At th.length ct) := hIa.st.cell 0
          have s1 : (wr.alloc (.cells #[.int .i64 l2[j].f0, .int .i64 l2[j].f1] 63)).cell? ⟨w.heap.size + 1, 1, none⟩ = some (.slice As sv.length cs') := hIa.st.cell 1
          have s2 : (wr.alloc (.cells #[.int .i64 l2[j].f0, .int .i64 l2[j].f1] 63)).cell? ⟨w.heap.size + 1, 2, none⟩ = some (.slice Ag gr.length cg) := hIa.st.cell 2
          have s3 : (wr.alloc (.cells #[.int .i64 l2[j].f0, .int .i64 l2[j].f1] 63)).cell? ⟨w.heap.size + 1, 3, none⟩ = some (.int .i64 em) := hIa.st.cell 3
          have s4 : (wr.alloc (.cells #[.int .i64 l2[j].f0, .int .i64 l2[j].f1] 63)).cell? ⟨w.heap.size + 1, 4, none⟩ = some (.int .i64 sd) := hIa.st.cell 4
          have s5 : (wr.alloc (.cells #[.int .i64 l2[j].f0, .int .i64 l2[j].f1] 63)).cell? ⟨w.heap.size + 1, 5, none⟩ = some (.int .i64 dn) := hIa.st.cell 5
          have s6 : (wr.alloc (.cells #[.int .i64 l2[j].f0, .int .i64 l2[j].f1] 63)).cell? ⟨w.heap.size + 1, 6, none⟩ = some (.int .i64 pk) := hIa.st.cell 6
          have s7 : (wr.alloc (.cells #[.int .i64 l2[j].f0, .int .i64 l2[j].f1] 63)).cell? ⟨w.heap.size + 1, 7, none⟩ = some (.int .i64 co) := hIa.st.cell 7
          have HIA := Lib.hid hIa
          clear hc hck hdr hgood hI hIa
          generalize doW x l0_0 l0_1 a1 l2[j].f0 l2[j].f1.toNat = R at *
          generalize l2[j] = y at *
          obtain ⟨yk, yi⟩ := y
          obtain ⟨x2, E⟩ := R
          simp only at h0 h1 hdo heq hbd s0 s1 s2 s3 s4 s5 s6 s7
          have HDO2 := Lib.hid hdo
          have HBD2 := Lib.hid hbd
          have HEQ := Lib.hid heq
          clear hdo hbd heq HDO HBD HR17
          go_wp2_with fail
          refine HDO2.out.mono ?_
          rintro e w2 ⟨⟨At2, ct2, As2, cs2, Ag2, cg2, th2, sv2, gr2, em2, sd2, dn2, pk2, co2, rfl, hok⟩, hbl⟩
          have hI2 := HIA.out.below hbl
          clear s0 s1 s2 s3 s4 s5 s6 s7 k0 k1 h0 h1
          have s0 : w2.cell? ⟨w.heap.size + 1, 0, none⟩ = some (.slice At th.length ct) := hI2.st.cell 0
          have s1 : w2.cell? ⟨w.heap.size + 1, 1, none⟩ = some (.slice As sv.length cs') := hI2.st.cell 1
          have s2 : w2.cell? ⟨w.heap.size + 1, 2, none⟩ = some (.slice Ag gr.length cg) := hI2.st.cell 2
          have s3 : w2.cell? ⟨w.heap.size + 1, 3, none⟩ = some (.int .i64 em) := hI2.st.cell 3
          have s4 : w2.cell? ⟨w.heap.size + 1, 4, none⟩ = some (.int .i64 sd) := hI2.st.cell 4
          have s5 : w2.cell? ⟨w.heap.size + 1, 5, none⟩ = some (.int .i64 dn) := hI2.st.cell 5
          have s6 : w2.cell? ⟨w.heap.size + 1, 6, none⟩ = some (.int .i64 pk) := hI2.st.cell 6
          have s7 : w2.cell? ⟨w.heap.size + 1, 7, none⟩ = some (.int .i64 co) := hI2.st.cell 7
          have f0 := hI2.st.frozen 0
          have f1 := hI2.st.frozen 1
          have f2 := hI2.st.frozen 2
          have f3 := hI2.st.frozen 3
          have f4 := hI2.st.frozen 4
          have f5 := hI2.st.frozen 5
          have f6 := hI2.st.frozen 6
          have f7 := hI2.st.frozen 7
          have HI2 := Lib.hid hI2
          clear hI2 hbl HIA HDO2
          by_cases hE : E = 0
          · subst hE
            obtain ⟨o1, o2, o3, o4, o5, o6, o7⟩ := hok rfl
            have HNX := Lib.hid (LI.next (s2 := ⟨th2, sv2, gr2, em2, sd2, dn2, pk2, co2⟩) HI2.out o2 o3 o4 o5 o6 o7 o1 HBD2.out (HEQ.out.trans (if_pos rfl)))
            clear hok o1 o2 o3 o4 o5 o6 o7
            go_wp2_with fail
            go_roundw
            case rel => exact ⟨j + 1, At2, ct2, As2, cs2, Ag2, cg2, ⟨th2, sv2, gr2, em2, sd2, dn2, pk2, co2⟩, x2, by omega, by go_num, HNX.out⟩
            case measure => simp [intOf]; omega
          · have hEb : (E != 0) = true := by simpa using hE
            have HE := Lib.hid hE
            have HRR := Lib.hid (HEQ.out.trans (if_neg hE))
            have n2 : w.heap.size ≤ w.heap.size + 1 := by omega
            have HFB : Hid (Below w.heap.size w ((((((((w2.setCell ⟨w.heap.size + 1, 0, none⟩ (.slice At2 th2.length ct2)).setCell ⟨w.heap.size + 1, 1, none⟩ (.slice As2 sv2.length cs2)).setCell ⟨w.heap.size + 1, 2, none⟩ (.slice Ag2 gr2.length cg2)).setCell ⟨w.heap.size + 1, 3, none⟩ (.int .i64 em2)).setCell ⟨w.heap.size + 1, 4, none⟩ (.int .i64 sd2)).setCell ⟨w.heap.size + 1, 5, none⟩ (.int .i64 dn2)).setCell ⟨w.heap.size + 1, 6, none⟩ (.int .i64 pk2)).setCell ⟨w.heap.size + 1, 7, none⟩ (.int .i64 co2))) := Lib.hid
              ((((((((HI2.out.bl.setCell (p := ⟨w.heap.size + 1, 0, none⟩) n2 _).setCell (p := ⟨w.heap.size + 1, 1, none⟩) n2 _).setCell (p := ⟨w.heap.size + 1, 2, none⟩) n2 _).setCell (p := ⟨w.heap.size + 1, 3, none⟩) n2 _).setCell (p := ⟨w.heap.size + 1, 4, none⟩) n2 _).setCell (p := ⟨w.heap.size + 1, 5, none⟩) n2 _).setCell (p := ⟨w.heap.size + 1, 6, none⟩) n2 _).setCell (p := ⟨w.heap.size + 1, 7, none⟩) n2 _)
            clear hE hok n2
            go_wp2_with fail
            go_ret3
            have hx := HXX.out
            rw [HRR.out] at hx
            unfold endW at hx
            rw [if_pos HE.out] at hx
            injection hx with e1 hx
            injection hx with e2 e3
            exact ⟨by rw [← e1, ← e2, ← e3]; rfl, HFB.out⟩
        · obtain rfl : j = l2.length := by omega
          have heq := hI.eq
          rw [List.drop_length, runW_nil] at heq
          have hx := HXX.out
          rw [heq] at hx
          unfold endW at hx
          rw [if_neg (by simp)] at hx
          simp only at hx
          have hem : em = flag x.em := hI.rel.em
          have hdn : dn = x.dn := hI.rel.dn
          have hpk : pk = x.pk := hI.rel.pk
          have hco : co = x.ct := hI.rel.ct
          rw [← hdn, ← hpk, ← hco] at hx
          have s3 : wr.cell? ⟨w.heap.size + 1, 3, none⟩ = some (.int .i64 em) := hI.st.cell 3
          have s5 : wr.cell? ⟨w.heap.size + 1, 5, none⟩ = some (.int .i64 dn) := hI.st.cell 5
          have s6 : wr.cell? ⟨w.heap.size + 1, 6, none⟩ = some (.int .i64 pk) := hI.st.cell 6
          have s7 : wr.cell? ⟨w.heap.size + 1, 7, none⟩ = some (.int .i64 co) := hI.st.cell 7
          have k1 := hI.bx.cell 1
          simp only [List.getElem?_toArray, List.getElem?_cons_zero, List.getElem?_cons_succ] at k1
          have HBL : Hid (∀ n, Below w.heap.size w (wr.drewN n)) := Lib.hid fun n => ⟨hI.bl.os, hI.bl.tape, hI.bl.output, hI.bl.size, hI.bl.block⟩
          have HB0 := Lib.hid hI.bl
          clear hI heq hlt hdn hpk hco
          cases hex : x.em with
          | false =>
            rw [hex] at hx hem
            rw [if_pos (Or.inl rfl)] at hx
            obtain rfl : em = 0 := hem
            have HX3 := Lib.hid hx
            clear hx hex
            go_wp2_with fail
            go_ret3
            have hx := HX3.out
            injection hx with e1 hx
            injection hx with e2 e3
            exact ⟨by rw [← e1, ← e2, ← e3]; rfl, HB0.out⟩
          | true =>
            rw [hex] at hx hem
            obtain rfl : em = 1 := hem
            clear hex
            by_cases hd : dn < (l0_1.length : Int)
            · rw [if_pos (Or.inr hd)] at hx
              have HX3 := Lib.hid hx
              clear hx
              go_wp2_with fail
              go_ret3
              have hx := HX3.out
              injection hx with e1 hx
              injection hx with e2 e3
              exact ⟨by rw [← e1, ← e2, ← e3]; rfl, HB0.out⟩
            · rw [if_neg (fun hh => hh.elim (fun e => by cases e) hd)] at hx
              have hdb : decide (dn < (l0_1.length : Int)) = false := decide_eq_false hd
              have HX3 := Lib.hid hx
              clear hx hd
              go_wp2_with fail
              go_quiet (fail)
              go_wp2_with fail
              go_ret3
              have hx := HX3.out
              injection hx with e1 hx
              injection hx with e2 e3
              exact ⟨by rw [← e1, ← e2, ← e3]; rfl, HBL.out _⟩
end Go.Proofs.Ytiejdbdbafmccaa.PCh
/- part PChx3 -/
namespace Go.Proofs.Ytiejdbdbafmccaa.PCh
open Go.RowKit Go.Proofs.YtiejdbdbafmccaaW.PrintWords Go.Proofs.YtiejdbdbafmccaaW.PrintLast Go.Proofs.YtiejdbdbafmccaaW.PrintMore
attribute [local go_sem] max2_int min2_int max_two min_two max_three min_three max_four min_four
set_option linter.unusedVariables false
set_option linter.unusedSimpArgs false
def athanorlaw20_small.f (k : Nat) (l0_0 : List Int) (l0_1 : List Int) (a1 : Int) : Option (Bool) := (athanorlaw20_right.f k l0_0 l0_1).bind fun t106 => (if t106 = true then (if (l0_1.length : Int) ≤ 14 then (if a1 ≥ 0 then (some (decide (a1 ≤ 200))) else (some false)) else (some false)) else (some false))
theorem athanorlaw20_small.mono : ∀ a0 a1 a2 k, LeO (athanorlaw20_small.f k a0 a1 a2) (athanorlaw20_small.f (k + 1) a0 a1 a2) := by
  intro a0 a1 a2 k
  unfold athanorlaw20_small.f
  repeat' first
      | (with_reducible exact athanorlaw20_right.mono _ _ _)
      | (with_reducible exact LeO.refl _)
      | (with_reducible exact LeO.none _)
      | (with_reducible refine LeO.ite ?_ ?_)
      | (with_reducible refine LeO.bind ?_ (fun _ => ?_))
      | exact athanorlaw20_right.mono _ _ _
      | exact LeO.none _
      | refine LeO.ite ?_ ?_
      | refine LeO.bind ?_ (fun _ => ?_)
set_option maxHeartbeats 8000000 in
set_option maxRecDepth 100000 in
theorem athanorlaw20_small.calls (k : Nat) (A0_0 : Option Addr) (c0_0 : Nat) (l0_0 : List Int) (A0_1 : Option Addr) (c0_1 : Nat) (l0_1 : List Int) (a1 : Int) (r : Bool) (w : World) (hr0_0 : Kd.C (Kd.int .i64) w A0_0 l0_0.length l0_0) (hc0_0 : l0_0.length ≤ c0_0) (hr0_1 : Kd.C (Kd.int .i64) w A0_1 l0_1.length l0_1) (hc0_1 : l0_1.length ≤ c0_1) (h : athanorlaw20_small.f k l0_0 l0_1 a1 = some r) :
    Calls Try.prog 8 #[.agg #[.slice A0_0 l0_0.length c0_0, .slice A0_1 l0_1.length c0_1], .int .i64 a1] w fun e w' => e = .returned (.bool r) ∧ Below w.heap.size w w' := by
  have hu24 := Try.underlying24
  have HR0_0 := Aside0.mk hr0_0
  have HC0_0 := Aside0.mk hc0_0
  clear hr0_0 hc0_0
  have HR0_1 := Aside0.mk hr0_1
  have HC0_1 := Aside0.mk hc0_1
  clear hr0_1 hc0_1
  have HB := Aside0.mk (Below.refl w.heap.size w)
  have H : ((athanorlaw20_right.f k l0_0 l0_1).bind fun t106 => (if t106 = true then (if (l0_1.length : Int) ≤ 14 then (if a1 ≥ 0 then (some (decide (a1 ≤ 200))) else (some false)) else (some false)) else (some false))) = some r := h
  clear h
  replace H := Option.bind_eq_some_iff.mp H
  obtain ⟨t106, A30, H⟩ := H
  replace H : (if t106 = true then (if (l0_1.length : Int) ≤ 14 then (if a1 ≥ 0 then (some (decide (a1 ≤ 200))) else (some false)) else (some false)) else (some false)) = some r := H
  have A3 := Aside0.mk A30
  clear A30
  by_cases c4 : t106 = true
  · subst c4
    have H1 : (if (l0_1.length : Int) ≤ 14 then (if a1 ≥ 0 then (some (decide (a1 ≤ 200))) else (some false)) else (some false)) = some r := by rw [if_pos rfl] at H; exact H
    clear H
    have H := H1
    clear H1
    by_cases c5 : (l0_1.length : Int) ≤ 14
    · rw [if_pos c5] at H
      have c5b0 : decide ((l0_1.length : Int) ≤ 14) = true := decide_eq_true c5
      have c5b1 : decide (l0_1.length ≤ 14) = true := decide_eq_true (by omega)
      clear c5
      by_cases c6 : a1 ≥ 0
      · rw [if_pos c6] at H
        have c6b0 : decide (0 ≤ a1) = true := decide_eq_true c6
        clear c6
        obtain rfl := Option.some.inj H
        go_enter Try.func8, Try.ntmps8
        go_wp2_with (first | ((with_reducible refine gate_dst (N := 2) rfl ?_); (try (refine gate_guard (by rfl) ?_; dsimp only)); refine box_event ?hg (N := 2) ?hd (cs := #[.slice A0_0 l0_0.length c0_0, .slice A0_1 l0_1.length c0_1]) (t := 24) ?hr ?_; (case hd => rfl); (case hg => rfl); (case hr => first | (go_simp; done) | (go_simp; rfl)); intro gb105 hg w7 hbox hb; have n0_ := Aside0.mk (below_step (by repeat (first | (with_reducible first | exact HB.out | apply below_alloc | apply pw_below_drewN | apply below_drew1) | exact HB.out)) hb); have n1_ := Aside0.mk (hbox); have n2_ := Aside0.mk ((by rw [hg]; exact (below_size (by repeat (first | (with_reducible first | exact HB.out | apply below_alloc | apply pw_below_drewN | apply below_drew1) | exact HB.out))) : w.heap.size ≤ gb105)); have n3_ := Aside0.mk ((by rw [hg]; exact (below_size (by repeat (first | (with_reducible first | exact HB.out | apply below_alloc | apply pw_below_drewN | apply below_drew1) | exact HB.out))) : w.heap.size ≤ gb105)); clear HB; have HB := n0_; have BK105 := n1_; have GW105 := n2_; have GE105 := n3_; clear n0_ n1_ n2_ n3_; clear hb hbox hg; have hcz8_0 : w7.cell? ⟨gb105, 0, none⟩ = some (.slice A0_0 l0_0.length c0_0) := (blk_cell BK105.out 0).trans rfl; have hcz8_1 : w7.cell? ⟨gb105, 1, none⟩ = some (.slice A0_1 l0_1.length c0_1) := (blk_cell BK105.out 1).trans rfl; have hfz8_0 := blk_frozen BK105.out 0; have hfz8_1 := blk_frozen BK105.out 1) | ((with_reducible refine gate_callee (f := 14) rfl ?_); refine goesL_ (some 6) rfl rfl Try.func14 (by kernel_rfl) rfl #[.agg #[.slice A0_0 l0_0.length c0_0, .slice A0_1 l0_1.length c0_1]] rfl (by (try simp only [List.map_toArray, List.map_cons, List.map_nil]); first | done | rfl | (simp only [List.length_drop, List.length_take]; rfl)) ?_; (with_reducible refine (athanorlaw20_right.calls k _ _ l0_0 _ _ l0_1 true _ ?side1 ?side2 ?side3 ?side4 A3.out).mono ?_); (case side1 => repeat (first | exact (Kd.C_below HR0_0.out HB.out) | (with_reducible refine Kd.C_alloc ?_ _) | (with_reducible refine Kd.C_drewN ?_ _) | (with_reducible refine Kd.C_drew ?_))); (case side2 => exact HC0_0.out); (case side3 => repeat (first | exact (Kd.C_below HR0_1.out HB.out) | (with_reducible refine Kd.C_alloc ?_ _) | (with_reducible refine Kd.C_drewN ?_ _) | (with_reducible refine Kd.C_drew ?_))); (case side4 => exact HC0_1.out); rintro e w9 ⟨rfl, hb⟩; refine ⟨_, rfl, ?_⟩; have n0_ := Aside0.mk (blk_below (g := gb105) (o := .cells #[.slice A0_0 l0_0.length c0_0, .slice A0_1 l0_1.length c0_1] 24 (0, 0)) (by (with_reducible repeat (first | refine blk_drewN ?_ _ | refine blk_drew ?_ | refine blk_alloc ?_ _)); exact BK105.out) hb); have n1_ := Aside0.mk (below_step (by repeat (first | (with_reducible first | exact HB.out | apply below_alloc | apply pw_below_drewN | apply below_drew1 | refine below_set ?_ GE105.out) | exact HB.out)) hb); clear BK105; clear HB; have BK105 := n0_; have HB := n1_; clear n0_ n1_; (try clear hb); (try clear hb2); (try clear hk); (try clear hi); have hcz10_0 : w9.cell? ⟨gb105, 0, none⟩ = some (.slice A0_0 l0_0.length c0_0) := (blk_cell BK105.out 0).trans rfl; have hcz10_1 : w9.cell? ⟨gb105, 1, none⟩ = some (.slice A0_1 l0_1.length c0_1) := (blk_cell BK105.out 1).trans rfl; have hfz10_0 := blk_frozen BK105.out 0; have hfz10_1 := blk_frozen BK105.out 1))
        go_ret
        exact ⟨by first | rfl | (simp [errW_none, errW_some] <;> rfl) | (simp [*, errW_none, errW_some] <;> rfl), by repeat (first | (with_reducible first | exact HB.out | apply below_alloc | apply pw_below_drewN | apply below_drew1 | refine below_set ?_ GE105.out) | exact HB.out)⟩
      · rw [if_neg c6] at H
        have c6b0 : decide (0 ≤ a1) = false := decide_eq_false c6
        clear c6
        obtain rfl := Option.some.inj H
        go_enter Try.func8, Try.ntmps8
        go_wp2_with (first | ((with_reducible refine gate_dst (N := 2) rfl ?_); (try (refine gate_guard (by rfl) ?_; dsimp only)); refine box_event ?hg (N := 2) ?hd (cs := #[.slice A0_0 l0_0.length c0_0, .slice A0_1 l0_1.length c0_1]) (t := 24) ?hr ?_; (case hd => rfl); (case hg => rfl); (case hr => first | (go_simp; done) | (go_simp; rfl)); intro gb105 hg w11 hbox hb; have n0_ := Aside0.mk (below_step (by repeat (first | (with_reducible first | exact HB.out | apply below_alloc | apply pw_below_drewN | apply below_drew1) | exact HB.out)) hb); have n1_ := Aside0.mk (hbox); have n2_ := Aside0.mk ((by rw [hg]; exact (below_size (by repeat (first | (with_reducible first | exact HB.out | apply below_alloc | apply pw_below_drewN | apply below_drew1) | exact HB.out))) : w.heap.size ≤ gb105)); have n3_ := Aside0.mk ((by rw [hg]; exact (below_size (by repeat (first | (with_reducible first | exact HB.out | apply below_alloc | apply pw_below_drewN | apply below_drew1) | exact HB.out))) : w.heap.size ≤ gb105)); clear HB; have HB := n0_; have BK105 := n1_; have GW105 := n2_; have GE105 := n3_; clear n0_ n1_ n2_ n3_; clear hb hbox hg; have hcz12_0 : w11.cell? ⟨gb105, 0, none⟩ = some (.slice A0_0 l0_0.length c0_0) := (blk_cell BK105.out 0).trans rfl; have hcz12_1 : w11.cell? ⟨gb105, 1, none⟩ = some (.slice A0_1 l0_1.length c0_1) := (blk_cell BK105.out 1).trans rfl; have hfz12_0 := blk_frozen BK105.out 0; have hfz12_1 := blk_frozen BK105.out 1) | ((with_reducible refine gate_callee (f := 14) rfl ?_); refine goesL_ (some 6) rfl rfl Try.func14 (by kernel_rfl) rfl #[.agg #[.slice A0_0 l0_0.length c0_0, .slice A0_1 l0_1.length c0_1]] rfl (by (try simp only [List.map_toArray, List.map_cons, List.map_nil]); first | done | rfl | (simp only [List.length_drop, List.length_take]; rfl)) ?_; (with_reducible refine (athanorlaw20_right.calls k _ _ l0_0 _ _ l0_1 true _ ?side1 ?side2 ?side3 ?side4 A3.out).mono ?_); (case side1 => repeat (first | exact (Kd.C_below HR0_0.out HB.out) | (with_reducible refine Kd.C_alloc ?_ _) | (with_reducible refine Kd.C_drewN ?_ _) | (with_reducible refine Kd.C_drew ?_))); (case side2 => exact HC0_0.out); (case side3 => repeat (first | exact (Kd.C_below HR0_1.out HB.out) | (with_reducible refine Kd.C_alloc ?_ _) | (with_reducible refine Kd.C_drewN ?_ _) | (with_reducible refine Kd.C_drew ?_))); (case side4 => exact HC0_1.out); rintro e w13 ⟨rfl, hb⟩; refine ⟨_, rfl, ?_⟩; have n0_ := Aside0.mk (blk_below (g := gb105) (o := .cells #[.slice A0_0 l0_0.length c0_0, .slice A0_1 l0_1.length c0_1] 24 (0, 0)) (by (with_reducible repeat (first | refine blk_drewN ?_ _ | refine blk_drew ?_ | refine blk_alloc ?_ _)); exact BK105.out) hb); have n1_ := Aside0.mk (below_step (by repeat (first | (with_reducible first | exact HB.out | apply below_alloc | apply pw_below_drewN | apply below_drew1 | refine below_set ?_ GE105.out) | exact HB.out)) hb); clear BK105; clear HB; have BK105 := n0_; have HB := n1_; clear n0_ n1_; (try clear hb); (try clear hb2); (try clear hk); (try clear hi); have hcz14_0 : w13.cell? ⟨gb105, 0, none⟩ = some (.slice A0_0 l0_0.length c0_0) := (blk_cell BK105.out 0).trans rfl; have hcz14_1 : w13.cell? ⟨gb105, 1, none⟩ = some (.slice A0_1 l0_1.length c0_1) := (blk_cell BK105.out 1).trans rfl; have hfz14_0 := blk_frozen BK105.out 0; have hfz14_1 := blk_frozen BK105.out 1))
        go_ret
        exact ⟨by first | rfl | (simp [errW_none, errW_some] <;> rfl) | (simp [*, errW_none, errW_some] <;> rfl), by repeat (first | (with_reducible first | exact HB.out | apply below_alloc | apply pw_below_drewN | apply below_drew1 | refine below_set ?_ GE105.out) | exact HB.out)⟩
    · rw [if_neg c5] at H
      have c5b0 : decide ((l0_1.length : Int) ≤ 14) = false := decide_eq_false c5
      have c5b1 : decide (l0_1.length ≤ 14) = false := decide_eq_false (by omega)
      clear c5
      obtain rfl := Option.some.inj H
      go_enter Try.func8, Try.ntmps8
      go_wp2_with (first | ((with_reducible refine gate_dst (N := 2) rfl ?_); (try (refine gate_guard (by rfl) ?_; dsimp only)); refine box_event ?hg (N := 2) ?hd (cs := #[.slice A0_0 l0_0.length c0_0, .slice A0_1 l0_1.length c0_1]) (t := 24) ?hr ?_; (case hd => rfl); (case hg => rfl); (case hr => first | (go_simp; done) | (go_simp; rfl)); intro gb105 hg w15 hbox hb; have n0_ := Aside0.mk (below_step (by repeat (first | (with_reducible first | exact HB.out | apply below_alloc | apply pw_below_drewN | apply below_drew1) | exact HB.out)) hb); have n1_ := Aside0.mk (hbox); have n2_ := Aside0.mk ((by rw [hg]; exact (below_size (by repeat (first | (with_reducible first | exact HB.out | apply below_alloc | apply pw_below_drewN | apply below_drew1) | exact HB.out))) : w.heap.size ≤ gb105)); have n3_ := Aside0.mk ((by rw [hg]; exact (below_size (by repeat (first | (with_reducible first | exact HB.out | apply below_alloc | apply pw_below_drewN | apply below_drew1) | exact HB.out))) : w.heap.size ≤ gb105)); clear HB; have HB := n0_; have BK105 := n1_; have GW105 := n2_; have GE105 := n3_; clear n0_ n1_ n2_ n3_; clear hb hbox hg; have hcz16_0 : w15.cell? ⟨gb105, 0, none⟩ = some (.slice A0_0 l0_0.length c0_0) := (blk_cell BK105.out 0).trans rfl; have hcz16_1 : w15.cell? ⟨gb105, 1, none⟩ = some (.slice A0_1 l0_1.length c0_1) := (blk_cell BK105.out 1).trans rfl; have hfz16_0 := blk_frozen BK105.out 0; have hfz16_1 := blk_frozen BK105.out 1) | ((with_reducible refine gate_callee (f := 14) rfl ?_); refine goesL_ (some 6) rfl rfl Try.func14 (by kernel_rfl) rfl #[.agg #[.slice A0_0 l0_0.length c0_0, .slice A0_1 l0_1.length c0_1]] rfl (by (try simp only [List.map_toArray, List.map_cons, List.map_nil]); first | done | rfl | (simp only [List.length_drop, List.length_take]; rfl)) ?_; (with_reducible refine (athanorlaw20_right.calls k _ _ l0_0 _ _ l0_1 true _ ?side1 ?side2 ?side3 ?side4 A3.out).mono ?_); (case side1 => repeat (first | exact (Kd.C_below HR0_0.out HB.out) | (with_reducible refine Kd.C_alloc ?_ _) | (with_reducible refine Kd.C_drewN ?_ _) | (with_reducible refine Kd.C_drew ?_))); (case side2 => exact HC0_0.out); (case side3 => repeat (first | exact (Kd.C_below HR0_1.out HB.out) | (with_reducible refine Kd.C_alloc ?_ _) | (with_reducible refine Kd.C_drewN ?_ _) | (with_reducible refine Kd.C_drew ?_))); (case side4 => exact HC0_1.out); rintro e w17 ⟨rfl, hb⟩; refine ⟨_, rfl, ?_⟩; have n0_ := Aside0.mk (blk_below (g := gb105) (o := .cells #[.slice A0_0 l0_0.length c0_0, .slice A0_1 l0_1.length c0_1] 24 (0, 0)) (by (with_reducible repeat (first | refine blk_drewN ?_ _ | refine blk_drew ?_ | refine blk_alloc ?_ _)); exact BK105.out) hb); have n1_ := Aside0.mk (below_step (by repeat (first | (with_reducible first | exact HB.out | apply below_alloc | apply pw_below_drewN | apply below_drew1 | refine below_set ?_ GE105.out) | exact HB.out)) hb); clear BK105; clear HB; have BK105 := n0_; have HB := n1_; clear n0_ n1_; (try clear hb); (try clear hb2); (try clear hk); (try clear hi); have hcz18_0 : w17.cell? ⟨gb105, 0, none⟩ = some (.slice A0_0 l0_0.length c0_0) := (blk_cell BK105.out 0).trans rfl; have hcz18_1 : w17.cell? ⟨gb105, 1, none⟩ = some (.slice A0_1 l0_1.length c0_1) := (blk_cell BK105.out 1).trans rfl; have hfz18_0 := blk_frozen BK105.out 0; have hfz18_1 := blk_frozen BK105.out 1))
      go_ret
      exact ⟨by first | rfl | (simp [errW_none, errW_some] <;> rfl) | (simp [*, errW_none, errW_some] <;> rfl), by repeat (first | (with_reducible first | exact HB.out | apply below_alloc | apply pw_below_drewN | apply below_drew1 | refine below_set ?_ GE105.out) | exact HB.out)⟩
  · replace c4 := Bool.eq_false_iff.mpr c4
    subst c4
    have H1 : (some false) = some r := by rw [if_neg (show ¬ (false = true) by decide)] at H; exact H
    clear H
    have H := H1
    clear H1
    obtain rfl := Option.some.inj H
    go_enter Try.func8, Try.ntmps8
    go_wp2_with (first | ((with_reducible refine gate_dst (N := 2) rfl ?_); (try (refine gate_guard (by rfl) ?_; dsimp only)); refine box_event ?hg (N := 2) ?hd (cs := #[.slice A0_0 l0_0.length c0_0, .slice A0_1 l0_1.length c0_1]) (t := 24) ?hr ?_; (case hd => rfl); (case hg => rfl); (case hr => first | (go_simp; done) | (go_simp; rfl)); intro gb105 hg w19 hbox hb; have n0_ := Aside0.mk (below_step (by repeat (first | (with_reducible first | exact HB.out | apply below_alloc | apply pw_below_drewN | apply below_drew1) | exact HB.out)) hb); have n1_ := Aside0.mk (hbox); have n2_ := Aside0.mk ((by rw [hg]; exact (below_size (by repeat (first | (with_reducible first | exact HB.out | apply below_alloc | apply pw_below_drewN | apply below_drew1) | exact HB.out))) : w.heap.size ≤ gb105)); have n3_ := Aside0.mk ((by rw [hg]; exact (below_size (by repeat (first | (with_reducible first | exact HB.out | apply below_alloc | apply pw_below_drewN | apply below_drew1) | exact HB.out))) : w.heap.size ≤ gb105)); clear HB; have HB := n0_; have BK105 := n1_; have GW105 := n2_; have GE105 := n3_; clear n0_ n1_ n2_ n3_; clear hb hbox hg; have hcz20_0 : w19.cell? ⟨gb105, 0, none⟩ = some (.slice A0_0 l0_0.length c0_0) := (blk_cell BK105.out 0).trans rfl; have hcz20_1 : w19.cell? ⟨gb105, 1, none⟩ = some (.slice A0_1 l0_1.length c0_1) := (blk_cell BK105.out 1).trans rfl; have hfz20_0 := blk_frozen BK105.out 0; have hfz20_1 := blk_frozen BK105.out 1) | ((with_reducible refine gate_callee (f := 14) rfl ?_); refine goesL_ (some 6) rfl rfl Try.func14 (by kernel_rfl) rfl #[.agg #[.slice A0_0 l0_0.length c0_0, .slice A0_1 l0_1.length c0_1]] rfl (by (try simp only [List.map_toArray, List.map_cons, List.map_nil]); first | done | rfl | (simp only [List.length_drop, List.length_take]; rfl)) ?_; (with_reducible refine (athanorlaw20_right.calls k _ _ l0_0 _ _ l0_1 false _ ?side1 ?side2 ?side3 ?side4 A3.out).mono ?_); (case side1 => repeat (first | exact (Kd.C_below HR0_0.out HB.out) | (with_reducible refine Kd.C_alloc ?_ _) | (with_reducible refine Kd.C_drewN ?_ _) | (with_reducible refine Kd.C_drew ?_))); (case side2 => exact HC0_0.out); (case side3 => repeat (first | exact (Kd.C_below HR0_1.out HB.out) | (with_reducible refine Kd.C_alloc ?_ _) | (with_reducible refine Kd.C_drewN ?_ _) | (with_reducible refine Kd.C_drew ?_))); (case side4 => exact HC0_1.out); rintro e w21 ⟨rfl, hb⟩; refine ⟨_, rfl, ?_⟩; have n0_ := Aside0.mk (blk_below (g := gb105) (o := .cells #[.slice A0_0 l0_0.length c0_0, .slice A0_1 l0_1.length c0_1] 24 (0, 0)) (by (with_reducible repeat (first | refine blk_drewN ?_ _ | refine blk_drew ?_ | refine blk_alloc ?_ _)); exact BK105.out) hb); have n1_ := Aside0.mk (below_step (by repeat (first | (with_reducible first | exact HB.out | apply below_alloc | apply pw_below_drewN | apply below_drew1 | refine below_set ?_ GE105.out) | exact HB.out)) hb); clear BK105; clear HB; have BK105 := n0_; have HB := n1_; clear n0_ n1_; (try clear hb); (try clear hb2); (try clear hk); (try clear hi)))
    go_ret
    exact ⟨by first | rfl | (simp [errW_none, errW_some] <;> rfl) | (simp [*, errW_none, errW_some] <;> rfl), by repeat (first | (with_reducible first | exact HB.out | apply below_alloc | apply pw_below_drewN | apply below_drew1 | refine below_set ?_ GE105.out) | exact HB.out)⟩
end Go.Proofs.Ytiejdbdbafmccaa.PCh
