/- Lemmas: The writer's back, walked: a part that is feasible. · A chain's Plan, in the print's form. · May a code be: Right of an instruction, Check of a code, a chain's fits; walked. · The walker as it lies; ready, may, more, effect, do: walked. · The walker's ready, may and more, walked. · The walker's more, walked. · The walker's effect, walked. · The walker's do, walked. · A chain's Walk, in the print's form. Conditions: none beyond each lemma's own. -/
import Derived.Below
import Derived.Deep.Draws
import Derived.Deep.AppendLies
import Derived.Maps.AppendAt
import Derived.OwnWalk
import Derived.Laws.BytesArg
import Derived.Laws.MakeOwn
import Derived.Laws.OwnMore
import Derived.Deep.OwnRows
import Derived.Tactics
import Derived.Lib.ConvBytes
import Derived.Laws.Slices
import Derived.WalkKit
import Derived.KernelRfl
import Derived.RowKit3
import Derived.Deep.LoopGhost
import Derived.Deep.QuietTactic
import Derived.BigQuiet
import Derived.WideLaws
import Derived.Deep.DeepCutAuto
import Derived.Deep.CutBlock
import Derived.Deep.RegionHeld3
import Derived.Laws.Rows
import Derived.Lib.AppendStr
import Derived.ArgAppend
import Derived.Laws.IdiomCopy
import Derived.RowKit
import Derived.OrdersHeld
import Derived.Laws.BitsLemmas
import Derived.WalkSpells
import Derived.WalkLawsBesides
import Derived.Lib.Hide
import Derived.Deep.RegionLaw
import Derived.Laws.CopyOwn
import Derived.Laws.Externs
import Derived.Lib.Overlaps
import Derived.Lib.AppendZeros
import Derived.Deep.Slices
import Derived.Deep.Fields
import Derived.ChangeSame
import Derived.ProofKit
import Derived.Test.YtiejdbdbafmccaaProg
import Derived.DeepKeys4
import Derived.Maps.Keyed
import Derived.Lib.AppendZerosOnto
import Derived.Test.YtiejdbdbafmccaaMC3
set_option linter.unusedVariables false
set_option linter.unusedSimpArgs false
/- part ChBack -/
namespace Go.Proofs.Ytiejdbdbafmccaa
open Go.RowKit Go.Proofs.YtiejdbdbafmccaaW.PrintWords Go.Proofs.YtiejdbdbafmccaaW.PrintLast Go.Proofs.Ytiejdbdbafmccaa.PCh
structure BkI (N g mp b0 o0 c0 b1 o1 c1 gw : Nat) (ws cs : List Int) (w : World) (vp0 : Value) (l r : Nat) (m : Int) (vp : Value) (s : St) (wr : World) : Prop where
  pi : PI N g mp b0 o0 c0 b1 o1 c1 gw ws cs vp s.1 s.2 wr
  bx : Blk wr w.heap.size 59 #[.int .i64 (l : Int), .int .i64 (r : Int), .int .i64 m]
  fr : Frm [some mp, some gw, vp0.ownBlock] w wr
  nb : ∀ b, vp.ownBlock = some b → vp0.ownBlock = some b ∨ w.heap.size ≤ b
  nN : N ≤ w.heap.size
section
variable {N g mp b0 o0 c0 b1 o1 c1 gw : Nat} {ws cs : List Int} {w : World} {vp0 : Value} {l r : Nat} {m : Int} {vp : Value} {s s' : St} {wr w' : World}
theorem BkI.step (h : BkI N g mp b0 o0 c0 b1 o1 c1 gw ws cs w vp0 l r m vp s wr) (hb : BkP N g mp b0 o0 c0 b1 o1 c1 gw ws cs wr vp s'.1 s'.2 w') : ∃ vp', BkI N g mp b0 o0 c0 b1 o1 c1 gw ws cs w vp0 l r m vp' s' w' := by
  have hb2 := hb
  obtain ⟨vp', h1, h2, h3⟩ := hb
  obtain ⟨vp2, _, _, _⟩ := BkP.trans h.fr.size h.fr h.nb hb2
  have n1 := h.pi.kn.ne h.bx
  have n2 : gw ≠ w.heap.size := Blk.ne_ h.pi.wr h.bx (by decide)
  have n3 : vp.ownBlock ≠ some w.heap.size := fun e => by
    obtain ⟨cells, hc⟩ := code_typed h.pi.own _ e
    have hb := h.bx
    unfold Blk at hb
    rw [hc] at hb
    cases hb
  refine ⟨vp', h1, h.bx.frm h2 (by simp; exact ⟨n1, fun e => n2 e.symm, fun e => n3 e.symm⟩), h.fr.trans' h2 (fun x hx => ?_), fun b hb => ?_, h.nN⟩
  · simp only [List.mem_cons, List.not_mem_nil, or_false, Option.some.injEq] at hx ⊢
    rcases hx with hx | hx | hx
    · exact Or.inl (Or.inl hx)
    · exact Or.inl (Or.inr (Or.inl hx))
    · rcases h.nb x hx.symm with hx | hx
      · exact Or.inl (Or.inr (Or.inr hx.symm))
      · exact Or.inr hx
  · rcases h3 b hb with h4 | h4
    · exact h.nb b h4
    · have := h.fr.size
      exact Or.inr (by omega)
theorem BkI.ask (h : BkI N g mp b0 o0 c0 b1 o1 c1 gw ws cs w vp0 l r m vp s wr) (hf : Frm [some mp] wr w') (hk : Kn w' mp ws cs) : BkI N g mp b0 o0 c0 b1 o1 c1 gw ws cs w vp0 l r m vp s w' :=
  ⟨h.pi.frm hf hk, h.bx.kn h.pi.kn hf, h.fr.trans (hf.mono (fun x hx => Or.inl (by simp at hx; simp [hx]))), h.nb, h.nN⟩
theorem BkI.drew (h : BkI N g mp b0 o0 c0 b1 o1 c1 gw ws cs w vp0 l r m vp s wr) : BkI N g mp b0 o0 c0 b1 o1 c1 gw ws cs w vp0 l r m vp s wr.drew :=
  ⟨h.pi.below (Below.refl _ _).drew, h.bx.drew, h.fr.drew, h.nb, h.nN⟩
theorem BkI.drewN (h : BkI N g mp b0 o0 c0 b1 o1 c1 gw ws cs w vp0 l r m vp s wr) (n : Nat) : BkI N g mp b0 o0 c0 b1 o1 c1 gw ws cs w vp0 l r m vp s (wr.drewN n) :=
  ⟨h.pi.below ⟨rfl, rfl, rfl, Nat.le_refl _, fun _ _ => rfl⟩, h.bx.drewN n, h.fr.drewN n, h.nb, h.nN⟩
theorem BkI.post (h : BkI N g mp b0 o0 c0 b1 o1 c1 gw ws cs w vp0 l r m vp s wr) : BkP N g mp b0 o0 c0 b1 o1 c1 gw ws cs w vp0 s.1 s.2 wr := ⟨vp, h.pi, h.fr, h.nb⟩
theorem BkI.le (h : BkI N g mp b0 o0 c0 b1 o1 c1 gw ws cs w vp0 l r m vp s wr) : N ≤ wr.heap.size := Nat.le_trans h.nN h.fr.size
theorem BkI.p0 (h : BkI N g mp b0 o0 c0 b1 o1 c1 gw ws cs w vp0 l r m vp s wr) : wr.cell? ⟨w.heap.size, 0, none⟩ = some (.int .i64 (l : Int)) := h.bx.cell 0
theorem BkI.p1 (h : BkI N g mp b0 o0 c0 b1 o1 c1 gw ws cs w vp0 l r m vp s wr) : wr.cell? ⟨w.heap.size, 1, none⟩ = some (.int .i64 (r : Int)) := h.bx.cell 1
theorem BkI.p2 (h : BkI N g mp b0 o0 c0 b1 o1 c1 gw ws cs w vp0 l r m vp s wr) : wr.cell? ⟨w.heap.size, 2, none⟩ = some (.int .i64 m) := h.bx.cell 2
theorem BkI.doC (h : BkI N g mp b0 o0 c0 b1 o1 c1 gw ws cs w vp0 l r m vp s wr) (hp : s.2.length ≤ 200000) (kd id : Int) : Calls Try.prog 34 #[.pointer (some ⟨gw, 0, none⟩), .int .i64 kd, .int .i64 id] wr fun e w' => e = .returned (.tuple #[]) ∧ ∃ vp', BkI N g mp b0 o0 c0 b1 o1 c1 gw ws cs w vp0 l r m vp' (doS s kd id) w' :=
  (do_any N g mp b0 o0 c0 b1 o1 c1 gw ws cs vp s.1 s.2 wr kd id h.pi h.le hp).mono fun e w' he => ⟨he.1, h.step (s' := doS s kd id) he.2⟩
theorem BkI.reckC (h : BkI N g mp b0 o0 c0 b1 o1 c1 gw ws cs w vp0 l r m vp s wr) (hp : s.2.length ≤ 200000) (id : Nat) (hi : id ≤ 64) : Calls Try.prog 33 #[.pointer (some ⟨gw, 0, none⟩), .int .i64 (id : Int)] wr fun e w' => e = .returned (.tuple #[]) ∧ ∃ vp', BkI N g mp b0 o0 c0 b1 o1 c1 gw ws cs w vp0 l r m vp' (reckS s id) w' :=
  (reckon_any N g mp b0 o0 c0 b1 o1 c1 gw ws cs vp s.1 s.2 wr id h.pi h.le hp hi).mono fun e w' he => ⟨he.1, h.step (s' := reckS s id) he.2⟩
end
def BackC (f : Nat) : Prop := ∀ (N g mp b0 o0 c0 b1 o1 c1 gw : Nat) (ws cs : List Int) (l r : Nat) (m : Int) (vp : Value) (s : St) (w : World), PI N g mp b0 o0 c0 b1 o1 c1 gw ws cs vp s.1 s.2 w → N ≤ w.heap.size → Rt ws cs → l < r → r ≤ cs.length → r - l ≤ f → -65536 * (l : Int) ≤ m → m ≤ 4096 → (ans ws cs l r m).1 ≠ -1 → s.2.length + 5 * ((r - l) * (r - l)) ≤ 100000 →
  Calls Try.prog 22 #[.pointer (some ⟨gw, 0, none⟩), .agg #[.int .i64 (l : Int), .int .i64 (r : Int), .int .i64 m]] w fun e w' => e = .returned (.tuple #[]) ∧ BkP N g mp b0 o0 c0 b1 o1 c1 gw ws cs w vp (backF ws cs f l r m s).1 (backF ws cs f l r m s).2 w'
set_option maxRecDepth 100000 in
set_option maxHeartbeats 4000000 in
theorem back_step (f : Nat) (IH : BackC f) : BackC (f + 1) := by
  intro N g mp b0 o0 c0 b1 o1 c1 gw ws cs l r m vp s w h hN ht hl hr hd hm hm2 hf hlen
  obtain ⟨W, hW⟩ : ∃ W, W = w.alloc (.cells #[.int .i64 (l : Int), .int .i64 (r : Int), .int .i64 m] 59) := ⟨_, rfl⟩
  have hI : BkI N g mp b0 o0 c0 b1 o1 c1 gw ws cs w vp l r m vp s W := by
    have hb : Below w.heap.size w W := by rw [hW]; exact (Below.refl _ _).alloc (Nat.le_refl _) _
    exact ⟨h.below hb, by rw [hW]; exact Blk.new _ _ _, Frm.of_below hb, fun b hb => Or.inl hb, hN⟩
  have g1 : (0 : Int) ≤ (l : Int) := by omega
  have g3 : (r : Int) ≤ 64 := by have := ht.hi; omega
  have g2 : (l : Int) ≤ 64 := by omega
  have hhi := ht.hi
  by_cases hq : r = l + 1
  · have hqb : ((r : Int) == (l : Int) + 1) = true := by
      have : (r : Int) = (l : Int) + 1 := by omega
      simpa using this
    rw [backF_leaf hq]
    have hlen2 : s.2.length ≤ 100000 := by omega
    have p0 := hI.p0; have p1 := hI.p1; have p2 := hI.p2; have f0 := hI.pi.k0
    have f1 : W.cell? ⟨g, 2, none⟩ = some (.int .i64 (cs.length : Int)) := hI.pi.s.blk.cell 2
    by_cases hn : r = cs.length
    · have hnb : ((r : Int) == (cs.length : Int)) = true := by rw [hn]; simp
      have hX : leafS cs r s = doS (doS (doS (doS (reckS s r) 4 0) 3 (r : Int)) 5 0) 6 (r : Int) := by unfold leafS; rw [if_pos hn]
      have HI := Lib.hid hI
      have HX := Lib.hid hX
      have HW := Lib.hid hW
      have HL := Lib.hid hlen2
      have HR := Lib.hid (show r ≤ 64 by omega)
      clear hI hX hW h hN ht hl hr hd hm hm2 hf hlen hlen2 hq hn IH hhi
      go_enter Try.func22, Try.ntmps22
      go_wp2_with fail
      rw [← HW.out]
      go_quiet (fail)
      have p1 : (W.drewN nq).cell? ⟨w.heap.size, 1, none⟩ = some (.int .i64 (r : Int)) := p1
      go_wp2_with fail
      refine ((HI.out.drewN _).reckC (by have := HL.out; omega) r HR.out).mono ?_
      rintro e w1 ⟨rfl, vp1, hI1⟩
      have HI1 := Lib.hid hI1
      clear hI1 p1
      go_wp2_with fail
      refine (HI1.out.doC (by have := HL.out; simp only [reck_len]; omega) 4 0).mono ?_
      rintro e w2 ⟨rfl, vp2, hI2⟩
      have p1 := hI2.p1
      have HI2 := Lib.hid hI2
      clear hI2
      go_wp2_with fail
      refine (HI2.out.doC (by have := HL.out; simp only [reck_len, do_len]; omega) 3 r).mono ?_
      rintro e w3 ⟨rfl, vp3, hI3⟩
      have HI3 := Lib.hid hI3
      clear hI3 p1
      go_wp2_with fail
      refine (HI3.out.doC (by have := HL.out; simp only [reck_len, do_len]; omega) 5 0).mono ?_
      rintro e w4 ⟨rfl, vp4, hI4⟩
      have p1 := hI4.p1
      have HI4 := Lib.hid hI4
      clear hI4
      go_wp2_with fail
      refine (HI4.out.doC (by have := HL.out; simp only [reck_len, do_len]; omega) 6 r).mono ?_
      rintro e w5 ⟨rfl, vp5, hI5⟩
      have HI5 := Lib.hid hI5
      clear hI5 p1
      go_wp2_with fail
      refine bodyPost_ret (results_none rfl _ _ _) rfl ?_
      exact ⟨rfl, by rw [HX.out]; exact HI5.out.post⟩
    · have hnb : ((r : Int) == (cs.length : Int)) = false := by
        have : ¬ (r : Int) = (cs.length : Int) := by omega
        simpa using this
      have hX : leafS cs r s = doS s 6 (r : Int) := by unfold leafS; rw [if_neg hn]
      have HI := Lib.hid hI
      have HX := Lib.hid hX
      have HW := Lib.hid hW
      have HL := Lib.hid hlen2
      clear hI hX hW h hN ht hl hr hd hm hm2 hf hlen hlen2 hq hn IH hhi
      go_enter Try.func22, Try.ntmps22
      go_wp2_with fail
      rw [← HW.out]
      go_quiet (fail)
      have p1 : (W.drewN nq).cell? ⟨w.heap.size, 1, none⟩ = some (.int .i64 (r : Int)) := p1
      go_wp2_with fail
      refine ((HI.out.drewN _).doC (by have := HL.out; omega) 6 r).mono ?_
      rintro e w5 ⟨rfl, vp5, hI5⟩
      have HI5 := Lib.hid hI5
      clear hI5 p1
      go_wp2_with fail
      refine bodyPost_ret (results_none rfl _ _ _) rfl ?_
      exact ⟨rfl, by rw [HX.out]; exact HI5.out.post⟩
  · obtain ⟨k, hc⟩ := ans_cut (by omega) hf
    have hkl := hc.lo
    have hkr := hc.hi
    have hqb : ((r : Int) == (l : Int) + 1) = false := by
      have : ¬ (r : Int) = (l : Int) + 1 := by omega
      simpa using this
    rw [backF_split hq hc.k2]
    obtain ⟨T, hT⟩ : ∃ T, T = toS l (k - l) l s := ⟨_, rfl⟩
    have hTl : T.2.length ≤ s.2.length + 2 * (k - l) := by rw [hT]; exact to_len l (k - l) l s
    have hsq := sq5 (r - k) (k - l) (by omega) (by omega)
    rw [show r - k + (k - l) = r - l from by omega] at hsq
    have hx1 := ws_bd ht k
    obtain ⟨U, hU⟩ : ∃ U, U = backF ws cs f k r (m - ws.getD k 0) T := ⟨_, rfl⟩
    have hUl : U.2.length ≤ T.2.length + 5 * ((r - k) * (r - k)) := by rw [hU]; exact back_len f k r _ T hkr hc.fa
    have HAS : Hid (∀ W v, BkI N g mp b0 o0 c0 b1 o1 c1 gw ws cs w vp l r m v s W → Calls Try.prog 32 #[.pointer (some ⟨g, 0, none⟩), .agg #[.int .i64 (l : Int), .int .i64 (r : Int), .int .i64 m]] W (AskP W mp ws cs ((ans ws cs l r m).1, (k : Int)))) := Lib.hid fun W v hW => by
      have q := ask_any (r - l) W g mp b0 o0 c0 b1 o1 c1 ws cs l r m hW.pi.s hW.pi.kn ht hl hr (Nat.le_refl _) hm hm2
      rw [show ans ws cs l r m = ((ans ws cs l r m).1, (k : Int)) from by rw [← hc.k2]] at q
      exact q
    have HBA : Hid (∀ W v, BkI N g mp b0 o0 c0 b1 o1 c1 gw ws cs w vp l r m v T W → Calls Try.prog 22 #[.pointer (some ⟨gw, 0, none⟩), .agg #[.int .i64 (k : Int), .int .i64 (r : Int), .int .i64 (wrap64 (m - ws.getD k 0))]] W (fun e w' => e = .returned (.tuple #[]) ∧ ∃ v', BkI N g mp b0 o0 c0 b1 o1 c1 gw ws cs w vp l r m v' U w')) := Lib.hid fun W v hW => by
      rw [wr64 (by omega) (by omega)]
      have q := IH N g mp b0 o0 c0 b1 o1 c1 gw ws cs k r (m - ws.getD k 0) v T W hW.pi hW.le ht hkr hr (by omega) (by omega) (by omega) hc.fa (by omega)
      rw [← hU] at q
      exact q.mono fun e w' he => ⟨he.1, hW.step (s' := U) he.2⟩
    have HBB : Hid (∀ W v, BkI N g mp b0 o0 c0 b1 o1 c1 gw ws cs w vp l r m v (doS U 3 (k : Int)) W → Calls Try.prog 22 #[.pointer (some ⟨gw, 0, none⟩), .agg #[.int .i64 (l : Int), .int .i64 (k : Int), .int .i64 m]] W (fun e w' => e = .returned (.tuple #[]) ∧ ∃ v', BkI N g mp b0 o0 c0 b1 o1 c1 gw ws cs w vp l r m v' (backF ws cs f l k m (doS U 3 (k : Int))) w')) := Lib.hid fun W v hW => by
      have q := IH N g mp b0 o0 c0 b1 o1 c1 gw ws cs l k m v (doS U 3 (k : Int)) W hW.pi hW.le ht hkl (by omega) (by omega) (by omega) (by omega) hc.fb (by rw [do_len]; omega)
      exact q.mono fun e w' he => ⟨he.1, hW.step (s' := backF ws cs f l k m (doS U 3 (k : Int))) he.2⟩
    have HXX : Hid (∀ W v t, BkI N g mp b0 o0 c0 b1 o1 c1 gw ws cs w vp l r m v t W → W.cell? ⟨g, 0, none⟩ = some (.slice (some ⟨b0, o0, none⟩) ws.length c0) ∧ W.cell? ⟨b0, o0 + k, none⟩ = some (.int .i64 (ws.getD k 0))) := Lib.hid fun W v t hW => ⟨hW.pi.s.blk.cell 0, hW.pi.s.ws_ k (by rw [ht.len]; omega)⟩
    rw [← hT, ← hU]
    have i1 : (k : Int) < (ws.length : Int) := by rw [ht.len]; omega
    have i2 : (0 : Int) ≤ (k : Int) := by omega
    have i3 : (k : Int) ≤ 64 := by omega
    have HTL := Lib.hid (And.intro hTl (And.intro hUl (And.intro hlen hsq)))
    have HT := Lib.hid hT
    have p0 := hI.p0; have p1 := hI.p1; have p2 := hI.p2; have f0 := hI.pi.k0
    have HI := Lib.hid hI
    have HW := Lib.hid hW
    have HK := Lib.hid (And.intro hkl (show k ≤ 64 by omega))
    clear hT hU hI hW h hN ht hl hr hd hm hm2 hf hlen hq IH hhi hc hTl hUl hsq hkl hkr
    generalize ws.getD k 0 = X at *
    generalize (ans ws cs l r m).1 = A at *
    have hfd : ∀ w' : World, (Instr.field 47 (.agg #[.int .i64 A, .int .i64 (k : Int)]) 1).run Try.prog w' = .ok (.int .i64 (k : Int)) w' := fun _ => by kernel_rfl
    go_enter Try.func22, Try.ntmps22
    go_wp2_with fail
    rw [← HW.out]
    refine start_ (n := 8) (S := fun w' => w'.cell? ⟨gw, 0, none⟩ = some (.pointer (some ⟨g, 0, none⟩)) ∧ w'.cell? ⟨w.heap.size, 0, none⟩ = some (.int .i64 (l : Int)) ∧ w'.cell? ⟨w.heap.size, 1, none⟩ = some (.int .i64 (r : Int)) ∧ w'.cell? ⟨w.heap.size, 2, none⟩ = some (.int .i64 m)) (ds := []) #[false, false, false, false, false, false, false, false] (by kernel_rfl) rfl rfl ⟨HI.out.drew.pi.k0, HI.out.drew.p0, HI.out.drew.p1, HI.out.drew.p2⟩ (fun hHeld => ?_)
    refine pure_ (i := 0) (N := some 38) (v := ?_) (a' := ?_) #[true, false, false, false, false, false, false, false] rfl rfl (by kernel_rfl) (fun _ _ _ h => h) (Or.inl ⟨by rfl, ?_⟩) ?_ ?_
    rotate_left
    · intro w'
      go_simp
      with_reducible rfl
    rotate_left
    · simp only [Act.put, List.setIfInBounds_toArray, List.set_cons_zero, List.set_cons_succ, i64_w, i32_w]
      rfl
    refine pure_ (i := 1) (N := some 39) (v := ?_) (a' := ?_) #[true, true, false, false, false, false, false, false] rfl rfl (by kernel_rfl) (fun _ _ _ h => h) (Or.inl ⟨by rfl, ?_⟩) ?_ ?_
    rotate_left
    · intro w'
      go_simp
      with_reducible rfl
    rotate_left
    · simp only [Act.put, List.setIfInBounds_toArray, List.set_cons_zero, List.set_cons_succ, i64_w, i32_w]
      rfl
    refine pure_ (i := 2) (N := some 40) (v := ?_) (a' := ?_) #[true, true, true, false, false, false, false, false] rfl rfl (by kernel_rfl) (fun _ _ _ h => h) (Or.inl ⟨by rfl, ?_⟩) ?_ ?_
    rotate_left
    · intro w'
      go_simp
      with_reducible rfl
    rotate_left
    · simp only [Act.put, List.setIfInBounds_toArray, List.set_cons_zero, List.set_cons_succ, i64_w, i32_w]
      rfl
    refine take_ (i := 3) (N := some 41) (v := ?_) (a' := ?_) #[true, true, true, true, false, false, false, false] rfl rfl (by kernel_rfl) (fun _ _ _ h => h) (Or.inl ⟨by rfl, ?_⟩) hHeld ?_ ?_
    rotate_left
    · rintro w' ⟨s0, s1, s2, s3⟩
      go_simp
      with_reducible rfl
    rotate_left
    · simp only [Act.put, List.setIfInBounds_toArray, List.set_cons_zero, List.set_cons_succ, i64_w, i32_w]
      rfl
    refine take_ (i := 4) (N := some 42) (v := ?_) (a' := ?_) #[true, true, true, true, true, false, false, false] rfl rfl (by kernel_rfl) (fun _ _ _ h => h) (Or.inl ⟨by rfl, ?_⟩) hHeld ?_ ?_
    rotate_left
    · rintro w' ⟨s0, s1, s2, s3⟩
      go_simp
      with_reducible rfl
    rotate_left
    · simp only [Act.put, List.setIfInBounds_toArray, List.set_cons_zero, List.set_cons_succ, i64_w, i32_w]
      rfl
    refine one_ (i := 5) (N := some 43) #[true, true, true, true, true, true, false, false] rfl rfl (by kernel_rfl) (by decide) (fun K hK => ?_)
    refine goes_ Try.func32 (by kernel_rfl) rfl #[.pointer (some ⟨g, 0, none⟩), .agg #[.int .i64 (l : Int), .int .i64 (r : Int), .int .i64 m]] (by rfl) rfl rfl (by simp only [List.map_toArray, List.map_cons, List.map_nil]; rfl) ?_
    with_reducible refine (HAS.out _ _ HI.out.drew).mono ?_
    rintro e w1 ⟨rfl, hf1, hk1⟩
    refine ⟨_, rfl, ?_⟩
    have hI1 := HI.out.drew.ask hf1 hk1
    clear hf1 hk1
    refine hK.out _ _ ⟨hI1.pi.k0, hI1.p0, hI1.p1, hI1.p2⟩ (fun hHeld => ?_)
    clear hK K
    refine norm_ (a' := ?_) ?_ ?_
    rotate_left
    · show Act.put _ (some 43) _ = _
      simp only [Act.put, List.setIfInBounds_toArray, List.set_cons_zero, List.set_cons_succ, i64_w, i32_w]
      rfl
    refine pure_ (i := 6) (N := some 44) (v := ?_) (a' := ?_) #[true, true, true, true, true, true, true, false] rfl rfl (by kernel_rfl) (fun _ _ _ h => h) (Or.inl ⟨by rfl, ?_⟩) ?_ ?_
    rotate_left
    · intro w'
      go_simp
      with_reducible rfl
    rotate_left
    · simp only [Act.put, List.setIfInBounds_toArray, List.set_cons_zero, List.set_cons_succ, i64_w, i32_w]
      rfl
    refine pure_ (i := 7) (N := some 4) (v := ?_) (a' := ?_) #[true, true, true, true, true, true, true, true] rfl rfl (by kernel_rfl) (fun _ _ _ h => h) (Or.inl ⟨by rfl, ?_⟩) ?_ ?_
    rotate_left
    · intro w'
      go_simp
      with_reducible rfl
    rotate_left
    · simp only [Act.put, List.setIfInBounds_toArray, List.set_cons_zero, List.set_cons_succ, i64_w, i32_w]
      rfl
    refine done_ (by kernel_rfl) ?_
    have p0 := hI1.p0
    have HI1 := Lib.hid hI1
    clear hI1 p1 p2 f0 hfd
    go_wp2_with fail
    (try clear hHeld)
    go_loopw [5] (fun i wr => ∃ (j : Nat) (v : Value) (t : St), l ≤ j ∧ j ≤ k ∧ i = .int .i64 j ∧ BkI N g mp b0 o0 c0 b1 o1 c1 gw ws cs w vp l r m v t wr ∧ T = toS l (k - j) j t ∧ t.2.length + 2 * (k - j) ≤ s.2.length + 2 * (k - l)) (fun i _ => k - (intOf i).toNat)
    case atStart => exact ⟨l, vp, s, Nat.le_refl _, by have := HK.out; omega, rfl, HI1.out, HT.out, Nat.le_refl _⟩
    case round =>
      obtain ⟨j, v, t, hj1, hj2, rfl, hJ, hTT, hTN⟩ := hrel
      clear HI1 p0
      have p0 := hJ.p0
      have j1 : (0 : Int) ≤ (j : Int) := by omega
      have j2 : (j : Int) ≤ 64 := by omega
      have hlen : t.2.length ≤ 150000 := by have := HTL.out; have := HK.out; omega
      by_cases hlt : j < k
      · have hlt' : (j : Int) < (k : Int) := by omega
        have HC : Hid (Calls Try.prog 33 #[.pointer (some ⟨gw, 0, none⟩), .int .i64 ((j : Int) + 1)] wr fun e w' => e = .returned (.tuple #[]) ∧ ∃ v', BkI N g mp b0 o0 c0 b1 o1 c1 gw ws cs w vp l r m v' (reckS t (j + 1)) w') := Lib.hid (hJ.reckC (by omega) (j + 1) (by have := HK.out; omega))
        have HTN := Lib.hid hTN
        have HLN := Lib.hid hlen
        rw [show k - j = (k - (j + 1)) + 1 from by omega] at hTT
        unfold toS at hTT
        clear hJ hTN hlen
        by_cases hlj : l < j
        · have hlj' : (l : Int) < (j : Int) := by omega
          rw [if_pos hlj] at hTT
          have HTT := Lib.hid hTT
          clear hTT
          go_wp2_with (go_at_call 33; refine HC.out.mono ?_; rintro e w2 ⟨rfl, v2, hI2⟩; have p0 := hI2.p0; have HI2 := Lib.hid hI2; clear hI2)
          refine (HI2.out.doC (by have := HLN.out; simp only [reck_len]; omega) 3 j).mono ?_
          rintro e w3 ⟨rfl, v3, hI3⟩
          have HI3 := Lib.hid hI3
          clear hI3
          go_wp2_with fail
          go_roundw
          case rel => exact ⟨j + 1, v3, _, by omega, by omega, by go_num, HI3.out, HTT.out, by have := HTN.out; simp only [reck_len, do_len]; omega⟩
          case measure => simp [intOf]; omega
        · have hlj' : ¬ (l : Int) < (j : Int) := by omega
          rw [if_neg hlj] at hTT
          have HTT := Lib.hid hTT
          clear hTT
          go_wp2_with (go_at_call 33; refine HC.out.mono ?_; rintro e w2 ⟨rfl, v2, hI2⟩; have p0 := hI2.p0; have HI2 := Lib.hid hI2; clear hI2)
          go_roundw
          case rel => exact ⟨j + 1, v2, _, by omega, by omega, by go_num, HI2.out, HTT.out, by have := HTN.out; simp only [reck_len]; omega⟩
          case measure => simp [intOf]; omega
      · obtain rfl : j = k := by omega
        rw [Nat.sub_self] at hTT
        obtain rfl : T = t := hTT
        have hlt' : ¬ (j : Int) < (j : Int) := by omega
        have HJ := Lib.hid hJ
        clear hJ hlt hTN hlen p0
        go_wp2_with fail
        refine start_ (n := 20) (S := fun w' => w'.cell? ⟨gw, 0, none⟩ = some (.pointer (some ⟨g, 0, none⟩)) ∧ w'.cell? ⟨w.heap.size, 1, none⟩ = some (.int .i64 (r : Int)) ∧ w'.cell? ⟨w.heap.size, 2, none⟩ = some (.int .i64 m) ∧ w'.cell? ⟨g, 0, none⟩ = some (.slice (some ⟨b0, o0, none⟩) ws.length c0) ∧ w'.cell? ⟨b0, o0 + j, none⟩ = some (.int .i64 X)) (ds := []) #[false, false, false, false, false, false, false, false, false, false, false, false, false, false, false, false, false, false, false, false] (by kernel_rfl) rfl rfl ⟨HJ.out.drew.pi.k0, HJ.out.drew.p1, HJ.out.drew.p2, (HXX.out _ _ _ HJ.out.drew).1, (HXX.out _ _ _ HJ.out.drew).2⟩ (fun hHeld => ?_)
        refine pure_ (i := 0) (N := some 63) (v := ?_) (a' := ?_) #[true, false, false, false, false, false, false, false, false, false, false, false, false, false, false, false, false, false, false, false] rfl rfl (by kernel_rfl) (fun _ _ _ h => h) (Or.inl ⟨by rfl, ?_⟩) ?_ ?_
        rotate_left
        · intro w'
          go_simp
          with_reducible rfl
        rotate_left
        · simp only [Act.put, List.setIfInBounds_toArray, List.set_cons_zero, List.set_cons_succ, i64_w, i32_w]
          rfl
        refine pure_ (i := 1) (N := some 64) (v := ?_) (a' := ?_) #[true, true, false, false, false, false, false, false, false, false, false, false, false, false, false, false, false, false, false, false] rfl rfl (by kernel_rfl) (fun _ _ _ h => h) (Or.inl ⟨by rfl, ?_⟩) ?_ ?_
        rotate_left
        · intro w'
          go_simp
          with_reducible rfl
        rotate_left
        · simp only [Act.put, List.setIfInBounds_toArray, List.set_cons_zero, List.set_cons_succ, i64_w, i32_w]
          rfl
        refine pure_ (i := 2) (N := some 65) (v := ?_) (a' := ?_) #[true, true, true, false, false, false, false, false, false, false, false, false, false, false, false, false, false, false, false, false] rfl rfl (by kernel_rfl) (fun _ _ _ h => h) (Or.inl ⟨by rfl, ?_⟩) ?_ ?_
        rotate_left
        · intro w'
          go_simp
          with_reducible rfl
        rotate_left
        · simp only [Act.put, List.setIfInBounds_toArray, List.set_cons_zero, List.set_cons_succ, i64_w, i32_w]
          rfl
        refine pure_ (i := 4) (N := some 67) (v := ?_) (a' := ?_) #[true, true, true, false, true, false, false, false, false, false, false, false, false, false, false, false, false, false, false, false] rfl rfl (by kernel_rfl) (fun _ _ _ h => h) (Or.inl ⟨by rfl, ?_⟩) ?_ ?_
        rotate_left
        · intro w'
          go_simp
          with_reducible rfl
        rotate_left
        · simp only [Act.put, List.setIfInBounds_toArray, List.set_cons_zero, List.set_cons_succ, i64_w, i32_w]
          rfl
        refine pure_ (i := 6) (N := some 69) (v := ?_) (a' := ?_) #[true, true, true, false, true, false, true, false, false, false, false, false, false, false, false, false, false, false, false, false] rfl rfl (by kernel_rfl) (fun _ _ _ h => h) (Or.inl ⟨by rfl, ?_⟩) ?_ ?_
        rotate_left
        · intro w'
          go_simp
          with_reducible rfl
        rotate_left
        · simp only [Act.put, List.setIfInBounds_toArray, List.set_cons_zero, List.set_cons_succ, i64_w, i32_w]
          rfl
        refine pure_ (i := 7) (N := some 70) (v := ?_) (a' := ?_) #[true, true, true, false, true, false, true, true, false, false, false, false, false, false, false, false, false, false, false, false] rfl rfl (by kernel_rfl) (fun _ _ _ h => h) (Or.inl ⟨by rfl, ?_⟩) ?_ ?_
        rotate_left
        · intro w'
          go_simp
          with_reducible rfl
        rotate_left
        · simp only [Act.put, List.setIfInBounds_toArray, List.set_cons_zero, List.set_cons_succ, i64_w, i32_w]
          rfl
        refine pure_ (i := 8) (N := some 71) (v := ?_) (a' := ?_) #[true, true, true, false, true, false, true, true, true, false, false, false, false, false, false, false, false, false, false, false] rfl rfl (by kernel_rfl) (fun _ _ _ h => h) (Or.inl ⟨by rfl, ?_⟩) ?_ ?_
        rotate_left
        · intro w'
          go_simp
          with_reducible rfl
        rotate_left
        · simp only [Act.put, List.setIfInBounds_toArray, List.set_cons_zero, List.set_cons_succ, i64_w, i32_w]
          rfl
        refine pure_ (i := 14) (N := some 77) (v := ?_) (a' := ?_) #[true, true, true, false, true, false, true, true, true, false, false, false, false, false, true, false, false, false, false, false] rfl rfl (by kernel_rfl) (fun _ _ _ h => h) (Or.inl ⟨by rfl, ?_⟩) ?_ ?_
        rotate_left
        · intro w'
          go_simp
          with_reducible rfl
        rotate_left
        · simp only [Act.put, List.setIfInBounds_toArray, List.set_cons_zero, List.set_cons_succ, i64_w, i32_w]
          rfl
        refine take_ (i := 3) (N := some 66) (v := ?_) (a' := ?_) #[true, true, true, true, true, false, true, true, true, false, false, false, false, false, true, false, false, false, false, false] rfl rfl (by kernel_rfl) (fun _ _ _ h => h) (Or.inl ⟨by rfl, ?_⟩) hHeld ?_ ?_
        rotate_left
        · rintro w' ⟨s0, s1, s2, s3, s4⟩
          go_simp
          with_reducible rfl
        rotate_left
        · simp only [Act.put, List.setIfInBounds_toArray, List.set_cons_zero, List.set_cons_succ, i64_w, i32_w]
          rfl
        refine take_ (i := 5) (N := some 68) (v := ?_) (a' := ?_) #[true, true, true, true, true, true, true, true, true, false, false, false, false, false, true, false, false, false, false, false] rfl rfl (by kernel_rfl) (fun _ _ _ h => h) (Or.inl ⟨by rfl, ?_⟩) hHeld ?_ ?_
        rotate_left
        · rintro w' ⟨s0, s1, s2, s3, s4⟩
          go_simp
          with_reducible rfl
        rotate_left
        · simp only [Act.put, List.setIfInBounds_toArray, List.set_cons_zero, List.set_cons_succ, i64_w, i32_w]
          rfl
        refine take_ (i := 9) (N := some 72) (v := ?_) (a' := ?_) #[true, true, true, true, true, true, true, true, true, true, false, false, false, false, true, false, false, false, false, false] rfl rfl (by kernel_rfl) (fun _ _ _ h => h) (Or.inl ⟨by rfl, ?_⟩) hHeld ?_ ?_
        rotate_left
        · rintro w' ⟨s0, s1, s2, s3, s4⟩
          go_simp
          with_reducible rfl
        rotate_left
        · simp only [Act.put, List.setIfInBounds_toArray, List.set_cons_zero, List.set_cons_succ, i64_w, i32_w]
          rfl
        refine pure_ (i := 10) (N := some 73) (v := ?_) (a' := ?_) #[true, true, true, true, true, true, true, true, true, true, true, false, false, false, true, false, false, false, false, false] rfl rfl (by kernel_rfl) (fun _ _ _ h => h) (Or.inl ⟨by rfl, ?_⟩) ?_ ?_
        rotate_left
        · intro w'
          go_simp
          with_reducible rfl
        rotate_left
        · simp only [Act.put, List.setIfInBounds_toArray, List.set_cons_zero, List.set_cons_succ, i64_w, i32_w]
          rfl
        refine pure_ (i := 11) (N := some 74) (v := ?_) (a' := ?_) #[true, true, true, true, true, true, true, true, true, true, true, true, false, false, true, false, false, false, false, false] rfl rfl (by kernel_rfl) (fun _ _ _ h => h) (Or.inl ⟨by rfl, ?_⟩) ?_ ?_
        rotate_left
        · intro w'
          go_simp
          with_reducible rfl
        rotate_left
        · simp only [Act.put, List.setIfInBounds_toArray, List.set_cons_zero, List.set_cons_succ, i64_w, i32_w]
          rfl
        refine pure_ (i := 12) (N := some 75) (v := ?_) (a' := ?_) #[true, true, true, true, true, true, true, true, true, true, true, true, true, false, true, false, false, false, false, false] rfl rfl (by kernel_rfl) (fun _ _ _ h => h) (Or.inl ⟨by rfl, ?_⟩) ?_ ?_
        rotate_left
        · intro w'
          go_simp
          with_reducible rfl
        rotate_left
        · simp only [Act.put, List.setIfInBounds_toArray, List.set_cons_zero, List.set_cons_succ, i64_w, i32_w]
          rfl
        refine take_ (i := 13) (N := some 76) (v := ?_) (a' := ?_) #[true, true, true, true, true, true, true, true, true, true, true, true, true, true, true, false, false, false, false, false] rfl rfl (by kernel_rfl) (fun _ _ _ h => h) (Or.inl ⟨by rfl, ?_⟩) hHeld ?_ ?_
        rotate_left
        · rintro w' ⟨s0, s1, s2, s3, s4⟩
          go_simp
          with_reducible rfl
        rotate_left
        · simp only [Act.put, List.setIfInBounds_toArray, List.set_cons_zero, List.set_cons_succ, i64_w, i32_w]
          rfl
        refine pure_ (i := 15) (N := some 78) (v := ?_) (a' := ?_) #[true, true, true, true, true, true, true, true, true, true, true, true, true, true, true, true, false, false, false, false] rfl rfl (by kernel_rfl) (fun _ _ _ h => h) (Or.inl ⟨by rfl, ?_⟩) ?_ ?_
        rotate_left
        · intro w'
          go_simp
          with_reducible rfl
        rotate_left
        · simp only [Act.put, List.setIfInBounds_toArray, List.set_cons_zero, List.set_cons_succ, i64_w, i32_w]
          rfl
        refine take_ (i := 16) (N := some 79) (v := ?_) (a' := ?_) #[true, true, true, true, true, true, true, true, true, true, true, true, true, true, true, true, true, false, false, false] rfl rfl (by kernel_rfl) (fun _ _ _ h => h) (Or.inl ⟨by rfl, ?_⟩) hHeld ?_ ?_
        rotate_left
        · rintro w' ⟨s0, s1, s2, s3, s4⟩
          go_simp
          with_reducible rfl
        rotate_left
        · simp only [Act.put, List.setIfInBounds_toArray, List.set_cons_zero, List.set_cons_succ, i64_w, i32_w]
          rfl
        refine pure_ (i := 17) (N := some 80) (v := ?_) (a' := ?_) #[true, true, true, true, true, true, true, true, true, true, true, true, true, true, true, true, true, true, false, false] rfl rfl (by kernel_rfl) (fun _ _ _ h => h) (Or.inl ⟨by rfl, ?_⟩) ?_ ?_
        rotate_left
        · intro w'
          go_simp
          with_reducible rfl
        rotate_left
        · simp only [Act.put, List.setIfInBounds_toArray, List.set_cons_zero, List.set_cons_succ, i64_w, i32_w]
          rfl
        refine pure_ (i := 18) (N := some 81) (v := ?_) (a' := ?_) #[true, true, true, true, true, true, true, true, true, true, true, true, true, true, true, true, true, true, true, false] rfl rfl (by kernel_rfl) (fun _ _ _ h => h) (Or.inl ⟨by rfl, ?_⟩) ?_ ?_
        rotate_left
        · intro w'
          go_simp
          with_reducible rfl
        rotate_left
        · simp only [Act.put, List.setIfInBounds_toArray, List.set_cons_zero, List.set_cons_succ, i64_w, i32_w]
          rfl
        refine one_ (i := 19) (N := some 82) #[true, true, true, true, true, true, true, true, true, true, true, true, true, true, true, true, true, true, true, true] rfl rfl (by kernel_rfl) (by decide) (fun K hK => ?_)
        refine goes_ Try.func22 (by kernel_rfl) rfl #[.pointer (some ⟨gw, 0, none⟩), .agg #[.int .i64 (j : Int), .int .i64 (r : Int), .int .i64 (wrap64 (m - X))]] (by rfl) rfl rfl (by simp only [List.map_toArray, List.map_cons, List.map_nil]; rfl) ?_
        with_reducible refine (HBA.out _ _ HJ.out.drew).mono ?_
        rintro e w4 ⟨rfl, v4, hI4⟩
        refine ⟨_, rfl, ?_⟩
        refine hK.out _ _ ⟨hI4.pi.k0, hI4.p1, hI4.p2, (HXX.out _ _ _ hI4).1, (HXX.out _ _ _ hI4).2⟩ (fun hHeld => ?_)
        clear hK K
        refine norm_ (a' := ?_) ?_ ?_
        rotate_left
        · show Act.put _ (some 82) _ = _
          simp only [Act.put, List.setIfInBounds_toArray, List.set_cons_zero, List.set_cons_succ, i64_w, i32_w]
          rfl
        refine done_ (by kernel_rfl) ?_
        (try clear hHeld)
        have HI4 := Lib.hid hI4
        clear hI4
        go_wp2_with fail
        refine (HI4.out.doC (by have := HTL.out; have := HK.out; omega) 3 j).mono ?_
        rintro e w5 ⟨rfl, v5, hI5⟩
        have p0 := hI5.p0
        have p2 := hI5.p2
        have HI5 := Lib.hid hI5
        clear hI5
        go_wp2_with fail
        refine (HBB.out _ _ HI5.out).mono ?_
        rintro e w6 ⟨rfl, v6, hI6⟩
        have HI6 := Lib.hid hI6
        clear hI6 p0 p2
        go_wp2_with fail
        refine bodyPost_end (results_none rfl _ _ _) rfl ?_
        exact ⟨rfl, HI6.out.post⟩
theorem back_any : ∀ f, BackC f
  | 0 => fun _ _ _ _ _ _ _ _ _ _ _ _ _ _ _ _ _ _ _ _ _ h1 _ h2 => by omega
  | f + 1 => back_step f (back_any f)
end Go.Proofs.Ytiejdbdbafmccaa
/- part ChPlan -/
namespace Go.Proofs.Ytiejdbdbafmccaa.PCh
open Go.RowKit Go.Proofs.YtiejdbdbafmccaaW.PrintWords Go.Proofs.Ytiejdbdbafmccaa
theorem info_WT : (Try.prog.info? 53).map (fun i => i.zero) = some (some (.agg (wcells none (.slice none 0 0) (List.replicate 65 false)))) := by kernel_rfl
theorem zero_wt (w : World) : (zeroValue 53).run Try.prog w = .ok (.agg (wcells none (.slice none 0 0) (List.replicate 65 false))) w := by
  cases h : Try.prog.info? 53 with
  | none => have := info_WT; rw [h] at this; cases this
  | some i =>
    have e := info_WT
    rw [h] at e
    simp only [Option.map_some, Option.some.injEq] at e
    exact zero_of_info _ h e
theorem wcells_set (p : Option Addr) (v : Value) (l : List Bool) : (wcells none v l).setIfInBounds 0 (.pointer p) = wcells p v l := by simp [wcells]
def planF (ws cs : List Int) (cap : Int) : List S63 := (backF ws cs cs.length 0 cs.length cap (List.replicate 65 false, [])).2
def chain_Chain_Plan.f (l0_0 l0_1 : List Int) (a1 : Int) : Option (List S63 × Int) := some (if solE l0_0 l0_1 a1 = 0 then planF l0_0 l0_1 a1 else [], solE l0_0 l0_1 a1)
theorem solE_zero {ws cs : List Int} {cap : Int} (h : solE ws cs cap = 0) : Rt ws cs ∧ 0 ≤ cap ∧ cap ≤ 4096 ∧ (ans ws cs 0 cs.length cap).1 ≠ -1 ∧ solA ws cs cap = ans ws cs 0 cs.length cap := by
  unfold solE at h
  split at h
  · cases h
  · rename_i h1
    split at h
    · cases h
    · rename_i h2
      split at h
      · cases h
      · rename_i h3
        refine ⟨rt_of_right (by simpa using h1), by omega, by omega, h3, ?_⟩
        unfold solA
        rw [if_neg h1, if_neg h2, if_neg h3]
set_option maxHeartbeats 4000000 in
theorem chain_Chain_Plan.calls (A0_0 : Option Addr) (c0_0 : Nat) (l0_0 : List Int) (A0_1 : Option Addr) (c0_1 : Nat) (l0_1 : List Int) (a1 : Int) (r1 : List S63) (r2 : Int) (w : World) (hr0_0 : Kd.C (Kd.int .i64) w A0_0 l0_0.length l0_0) (hc0_0 : l0_0.length ≤ c0_0) (hr0_1 : Kd.C (Kd.int .i64) w A0_1 l0_1.length l0_1) (hc0_1 : l0_1.length ≤ c0_1) (h : chain_Chain_Plan.f l0_0 l0_1 a1 = some (r1, r2)) :
    Calls Try.prog 11 #[.agg #[.slice A0_0 l0_0.length c0_0, .slice A0_1 l0_1.length c0_1], .int .i64 a1] w fun e w' => ∃ v0_, e = .returned (.tuple #[v0_, .int .i64 r2]) ∧ k63.R 63 w' w.heap.size (fun _ => True) v0_ r1 ∧ Below w.heap.size w w' := by
  unfold chain_Chain_Plan.f at h
  injection h with h
  injection h with e1 e2
  subst e1 e2
  obtain ⟨W, hW⟩ : ∃ W, W = w.alloc (.cells #[.slice A0_0 l0_0.length c0_0, .slice A0_1 l0_1.length c0_1] 24) := ⟨_, rfl⟩
  have hb : Below w.heap.size w W := by rw [hW]; exact (Below.refl _ _).alloc (Nat.le_refl _) _
  have hz : W.heap.size = w.heap.size + 1 := by rw [hW]; simp
  have HS := Lib.hid (solve_any A0_0 c0_0 l0_0 A0_1 c0_1 l0_1 a1 W (Kd.C_below hr0_0 hb) hc0_0 (Kd.C_below hr0_1 hb) hc0_1)
  have hP : Blk W w.heap.size 24 #[.slice A0_0 l0_0.length c0_0, .slice A0_1 l0_1.length c0_1] := by rw [hW]; exact Blk.new _ _ _
  have p0 := hP.cell 0
  have p1 := hP.cell 1
  simp only [List.getElem?_toArray, List.getElem?_cons_zero, List.getElem?_cons_succ] at p0 p1
  have HB := Lib.hid hb
  have HW := Lib.hid hW
  have HZ := Lib.hid hz
  clear hr0_0 hc0_0 hr0_1 hc0_1 hb hP hW hz
  by_cases hE : solE l0_0 l0_1 a1 = 0
  · rw [if_pos hE, hE]
    obtain ⟨ht, h1, h2, h3, hA⟩ := solE_zero hE
    have hEb : (solE l0_0 l0_1 a1 != 0) = false := by simpa using hE
    have HE := Lib.hid hE
    have HQ := Lib.hid (And.intro ht (And.intro h1 (And.intro h2 (And.intro h3 hA))))
    clear ht h1 h2 h3 hA hE
    obtain ⟨Y, hY⟩ : ∃ Y : Option Addr → Array Value, Y = fun p => wcells p (.slice none 0 0) (List.replicate 65 false) := ⟨_, rfl⟩
    have hzv : ∀ w, (zeroValue 53).run Try.prog w = .ok (.agg (Y none)) w := by rw [hY]; exact zero_wt
    have hst : ∀ p, (Y none).setIfInBounds 0 (.pointer p) = Y p := fun p => by rw [hY]; exact wcells_set p _ _
    have hys : ∀ p, (Y p).size = 67 := fun p => by rw [hY]; simp [wcells]
    have hyn : ∀ p, ¬ Y p = #[] := fun p h => by have := hys p; rw [h] at this; cases this
    have HY := Lib.hid hY
    clear hY
    have HPI : Hid (∀ (w1 : World) (g mp b0 o0 b1 o1 : Nat), SV w1 g mp b0 o0 c0_0 b1 o1 c0_1 l0_0 l0_1 → Kn w1 mp l0_0 l0_1 → (W.heap.size ≤ g ∧ W.heap.size ≤ mp) ∧ b0 < W.heap.size ∧ b1 < W.heap.size → Below W.heap.size W w1 → PI (w.heap.size + 1) g mp b0 o0 c0_0 b1 o1 c0_1 (w1.heap.size + 1) l0_0 l0_1 (.slice none 0 0) (List.replicate 65 false) [] ((w1.alloc (.cells #[.int .i64 (solA l0_0 l0_1 a1).1, .int .i64 (solA l0_0 l0_1 a1).2] 47)).alloc (.cells (Y (some ⟨g, 0, none⟩)) 53))) := Lib.hid fun w1 g mp b0 o0 b1 o1 hs hk hb hw => by
      have hz := HZ.out
      have hsz := hw.size
      have hbb : Below w1.heap.size w1 ((w1.alloc (.cells #[.int .i64 (solA l0_0 l0_1 a1).1, .int .i64 (solA l0_0 l0_1 a1).2] 47)).alloc (.cells (Y (some ⟨g, 0, none⟩)) 53)) := ((Below.refl _ _).alloc (Nat.le_refl _) _).alloc (by simp) _
      refine ⟨hs.below hbb (Nat.le_refl _), hk.below hbb (Nat.le_refl _), by omega, ?_, by simp, Kd.R_nil _ _ _ _ _⟩
      have q := Blk.new (w1.alloc (.cells #[.int .i64 (solA l0_0 l0_1 a1).1, .int .i64 (solA l0_0 l0_1 a1).2] 47)) 53 (Y (some ⟨g, 0, none⟩))
      rw [show (w1.alloc (.cells #[.int .i64 (solA l0_0 l0_1 a1).1, .int .i64 (solA l0_0 l0_1 a1).2] 47)).heap.size = w1.heap.size + 1 from by simp] at q
      rw [HY.out] at q ⊢
      exact q
    have HBC : Hid (∀ (w1 : World) (g mp b0 o0 b1 o1 : Nat), Below W.heap.size W w1 → PI (w.heap.size + 1) g mp b0 o0 c0_0 b1 o1 c0_1 (w1.heap.size + 1) l0_0 l0_1 (.slice none 0 0) (List.replicate 65 false) [] ((w1.alloc (.cells #[.int .i64 (solA l0_0 l0_1 a1).1, .int .i64 (solA l0_0 l0_1 a1).2] 47)).alloc (.cells (Y (some ⟨g, 0, none⟩)) 53)) → Calls Try.prog 22 #[.pointer (some ⟨w1.heap.size + 1, 0, none⟩), .agg #[.int .i64 0, .int .i64 (l0_1.length : Int), .int .i64 a1]] ((w1.alloc (.cells #[.int .i64 (solA l0_0 l0_1 a1).1, .int .i64 (solA l0_0 l0_1 a1).2] 47)).alloc (.cells (Y (some ⟨g, 0, none⟩)) 53)) fun e w' => e = .returned (.tuple #[]) ∧ ∃ A n c, w'.cell? ⟨w1.heap.size + 1, 1, none⟩ = some (.slice A n c) ∧ k63.R 63 w' w.heap.size (fun _ => True) (.slice A n c) (planF l0_0 l0_1 a1) ∧ Below w.heap.size w w') := Lib.hid fun w1 g mp b0 o0 b1 o1 hw hP => by
      obtain ⟨q1, q2, q3, q4, q5⟩ := HQ.out
      have hz := HZ.out
      have hsz := hw.size
      have hbw : Below w.heap.size w ((w1.alloc (.cells #[.int .i64 (solA l0_0 l0_1 a1).1, .int .i64 (solA l0_0 l0_1 a1).2] 47)).alloc (.cells (Y (some ⟨g, 0, none⟩)) 53)) := ((HB.out.trans (hw.mono (by omega))).alloc (by omega) _).alloc (by simp; omega) _
      have hq : l0_1.length * l0_1.length ≤ 64 * 64 := Nat.mul_le_mul q1.hi q1.hi
      refine (back_any l0_1.length (w.heap.size + 1) g mp b0 o0 c0_0 b1 o1 c0_1 (w1.heap.size + 1) l0_0 l0_1 0 l0_1.length a1 (.slice none 0 0) (List.replicate 65 false, []) _ hP (by simp; omega) q1 (by have := q1.lo; omega) (Nat.le_refl _) (by omega) (by simp; omega) q3 q4 (by simp only [List.length_nil, Nat.sub_zero]; omega)).mono fun e w' he => ?_
      obtain ⟨he, vp, p1, p2, _⟩ := he
      refine ⟨he, ?_⟩
      obtain ⟨A, c, hv⟩ := Kd.R_slice p1.own
      refine ⟨A, _, c, by rw [← hv]; exact p1.k1, by rw [← hv]; exact Kd.R_lower p1.own (by omega), hbw.trans (p2.below hbw.size fun x hx => ?_)⟩
      have hh := hP.hb
      simp [Value.ownBlock] at hx
      omega
    clear HZ
    go_enter Try.func11, Try.ntmps11
    go_wp2_with (first | (go_at_call 21; rw [← HW.out]; refine HS.out.mono ?_; rintro e w1 ⟨⟨p, rfl, hsv⟩, hbl⟩; obtain ⟨g, mp, b0, o0, b1, o1, rfl, hs, hk, hg⟩ := (hsv HE.out).ex; have hP := HPI.out w1 g mp b0 o0 b1 o1 hs hk hg hbl; have f1 := hP.s.blk.cell 2; simp only [List.getElem?_toArray, List.getElem?_cons_zero, List.getElem?_cons_succ] at f1; have HCC := Lib.hid (HBC.out w1 g mp b0 o0 b1 o1 hbl hP); clear hbl hsv hs hk hg hP) | (go_at_call 22; refine HCC.out.mono ?_; rintro e w3 ⟨rfl, A, n, c, hcc, hR, hB⟩; have HR := Lib.hid hR; have HB3 := Lib.hid hB; clear hR hB))
    go_ret2
    exact ⟨_, rfl, HR.out, HB3.out⟩
  · rw [if_neg hE]
    have hEb : (solE l0_0 l0_1 a1 != 0) = true := by simpa using hE
    go_enter Try.func11, Try.ntmps11
    go_wp2_with (go_at_call 21; rw [← HW.out]; refine HS.out.mono ?_; rintro e w1 ⟨⟨p, rfl, _⟩, hbl⟩; have HB1 := Lib.hid (HB.out.trans (hbl.mono HB.out.size)); clear hbl)
    go_ret2
    exact ⟨_, rfl, Kd.R_nil _ _ _ _ _, HB1.out.alloc HB1.out.size _⟩
end Go.Proofs.Ytiejdbdbafmccaa.PCh
/- part ChCk -/
namespace Go.Proofs.Ytiejdbdbafmccaa
open Go.RowKit Go.Proofs.YtiejdbdbafmccaaW.PrintWords Go.Proofs.Ytiejdbdbafmccaa.PCh
def instrB (k id : Int) : Bool := if k = 4 ∨ k = 5 then decide (id = 0) else if k = 1 ∨ k = 2 ∨ k = 3 ∨ k = 6 then decide (1 ≤ id ∧ id ≤ 512) else false
theorem box_below (w : World) (o : Obj) : Below w.heap.size w (w.alloc o) := (Below.refl _ _).alloc (Nat.le_refl _) _
set_option maxHeartbeats 2000000 in
theorem iright_any (k id : Int) (w : World) : Calls Try.prog 48 #[.agg #[.int .i64 k, .int .i64 id]] w fun e w' => e = .returned (.bool (instrB k id)) ∧ Below w.heap.size w w' := by
  by_cases h4 : k = 4
  · subst h4
    go_enter Try.func48, Try.ntmps48
    go_wp2_with fail
    go_ret
    exact ⟨rb (by rw [Bool.eq_iff_iff]; simp [instrB]), box_below _ _⟩
  by_cases h5 : k = 5
  · subst h5
    go_enter Try.func48, Try.ntmps48
    go_wp2_with fail
    go_ret
    exact ⟨rb (by rw [Bool.eq_iff_iff]; simp [instrB]), box_below _ _⟩
  by_cases h1 : k = 1
  · subst h1
    by_cases g1 : 1 ≤ id
    · go_enter Try.func48, Try.ntmps48
      go_wp2_with fail
      go_ret
      exact ⟨rb (by rw [Bool.eq_iff_iff]; simp [instrB]; omega), box_below _ _⟩
    · have g2 : decide (1 ≤ id) = false := decide_eq_false g1
      go_enter Try.func48, Try.ntmps48
      go_wp2_with fail
      go_ret
      exact ⟨rb (by rw [Bool.eq_iff_iff]; simp [instrB]; omega), box_below _ _⟩
  by_cases h2 : k = 2
  · subst h2
    by_cases g1 : 1 ≤ id
    · go_enter Try.func48, Try.ntmps48
      go_wp2_with fail
      go_ret
      exact ⟨rb (by rw [Bool.eq_iff_iff]; simp [instrB]; omega), box_below _ _⟩
    · have g2 : decide (1 ≤ id) = false := decide_eq_false g1
      go_enter Try.func48, Try.ntmps48
      go_wp2_with fail
      go_ret
      exact ⟨rb (by rw [Bool.eq_iff_iff]; simp [instrB]; omega), box_below _ _⟩
  by_cases h3 : k = 3
  · subst h3
    by_cases g1 : 1 ≤ id
    · go_enter Try.func48, Try.ntmps48
      go_wp2_with fail
      go_ret
      exact ⟨rb (by rw [Bool.eq_iff_iff]; simp [instrB]; omega), box_below _ _⟩
    · have g2 : decide (1 ≤ id) = false := decide_eq_false g1
      go_enter Try.func48, Try.ntmps48
      go_wp2_with fail
      go_ret
      exact ⟨rb (by rw [Bool.eq_iff_iff]; simp [instrB]; omega), box_below _ _⟩
  by_cases h6 : k = 6
  · subst h6
    by_cases g1 : 1 ≤ id
    · go_enter Try.func48, Try.ntmps48
      go_wp2_with fail
      go_ret
      exact ⟨rb (by rw [Bool.eq_iff_iff]; simp [instrB]; omega), box_below _ _⟩
    · have g2 : decide (1 ≤ id) = false := decide_eq_false g1
      go_enter Try.func48, Try.ntmps48
      go_wp2_with fail
      go_ret
      exact ⟨rb (by rw [Bool.eq_iff_iff]; simp [instrB]; omega), box_below _ _⟩
  · go_enter Try.func48, Try.ntmps48
    go_wp2_with fail
    go_ret
    exact ⟨rb (by rw [Bool.eq_iff_iff]; simp [instrB, h1, h2, h3, h4, h5, h6]), box_below _ _⟩
theorem C2_at {w : World} {A : Option Addr} {xs : List S63} (h : k63.C w A xs.length xs) (hp : 0 < xs.length) :
    ∃ b o, A = some ⟨b, o, none⟩ ∧ b < w.heap.size ∧ ∀ i (hi : i < xs.length), w.cell? ⟨b, o + i * 2, none⟩ = some (.int .i64 xs[i].f0) ∧ w.cell? ⟨b, o + i * 2 + 1, none⟩ = some (.int .i64 xs[i].f1) := by
  obtain ⟨ad, rfl, hc⟩ := h.2.2 hp
  have hat : ∀ j (hj : j < xs.length), w.cell? (ad.add (j * 2)) = some (.int .i64 xs[j].f0) ∧ w.cell? (ad.add (j * 2 + 1)) = some (.int .i64 xs[j].f1) := fun j hj => by
    obtain ⟨c, hc1, hc2, hc3⟩ := hc j _ (List.getElem?_eq_getElem hj)
    have hce := k63_open hc2
    subst hce
    exact ⟨hc3 0 _ rfl, hc3 1 _ rfl⟩
  obtain ⟨b, o, rfl⟩ := addr_plain (a := ad) (by have := (hat 0 hp).1; rw [Nat.zero_mul, show ad.add 0 = ad from rfl] at this; exact this)
  have h0 := (hat 0 hp).1
  refine ⟨b, o, rfl, World.block_lt_of_cell? w _ h0, fun i hi => ?_⟩
  obtain ⟨h1, h2⟩ := hat i hi
  rw [Addr.add_lit] at h1 h2
  rw [← Nat.add_assoc] at h2
  exact ⟨h1, h2⟩
def badI (x : S63) : Bool := !instrB x.f0 x.f1
set_option maxHeartbeats 1000000 in
theorem bad_any (k id : Int) (w : World) : Calls Try.prog 47 #[.agg #[.int .i64 k, .int .i64 id]] w fun e w' => e = .returned (.bool (!instrB k id)) ∧ Below w.heap.size w w' := by
  have HB := Lib.hid (box_below w (.cells #[.int .i64 k, .int .i64 id] 63))
  go_enter Try.func47, Try.ntmps47
  go_wp2_with (go_at_call 48; refine (iright_any k id _).mono ?_; rintro e w1 ⟨rfl, hb1⟩; have HB1 := Lib.hid (HB.out.trans (hb1.mono HB.out.size)); clear hb1)
  go_ret
  exact ⟨rfl, HB1.out⟩
structure IxQ (l : List S63) (e : Ending) : Prop where
  ex : ∃ i : Int, e = .returned (.int .i64 i) ∧ (l.any badI = true ↔ 0 ≤ i)
set_option maxHeartbeats 2000000 in
theorem ixc_any (A : Option Addr) (c : Nat) (l : List S63) (w : World) (hr : k63.C w A l.length l) :
    Calls Try.prog 53 #[.slice A l.length c, .func (.func 47) #[] #[]] w fun e w' => IxQ l e ∧ Below w.heap.size w w' := by
  have HR := Lib.hid hr
  have hm := hr.2.1
  clear hr
  go_enter Try.func53, Try.ntmps53
  go_wp2_with fail
  go_loopw [8] (fun i wr => ∃ k : Nat, k ≤ l.length ∧ i = .int .i64 k ∧ Hid ((l.take k).any badI = false) ∧ Below w.heap.size w wr) (fun i _ => l.length - (intOf i).toNat)
  case atStart => exact ⟨0, by omega, rfl, (by simp : (l.take 0).any badI = false), Below.refl _ _⟩
  case round =>
    obtain ⟨k, hk, rfl, HQ, hbw⟩ := hrel
    by_cases hlt : k < l.length
    · obtain ⟨b, o, rfl, hb, hc⟩ := C2_at HR.out (by omega)
      have hck := hc k hlt
      have h0 := (hbw.cell (p := ⟨b, o + k * 2, none⟩) hb).trans hck.1
      have h1 := (hbw.cell (p := ⟨b, o + k * 2 + 1, none⟩) hb).trans hck.2
      have HSN := Lib.hid (List.take_succ_eq_append_getElem hlt)
      have HMM := Lib.hid (List.getElem_mem hlt)
      have HBW := Lib.hid hbw
      clear hc hck hbw
      generalize l[k] = x at *
      obtain ⟨xk, xi⟩ := x
      simp only at h0 h1
      cases hx : instrB xk xi with
      | true =>
        have HX := Lib.hid (show badI ⟨xk, xi⟩ = false by simp [badI, hx])
        have HC := Lib.hid fun W => by have q := bad_any xk xi W; rw [hx] at q; exact q
        clear hx
        go_wp2_with (go_at_call 47; refine (HC.out _).mono ?_; rintro e w1 ⟨rfl, hb1⟩; have HB1 := Lib.hid (HBW.out.trans (hb1.mono HBW.out.size)); clear hb1)
        go_roundw
        case rel => exact ⟨k + 1, by omega, by go_num, (by rw [HSN.out, List.any_append, HQ.out]; simp [HX.out] : (l.take (k + 1)).any badI = false), HB1.out⟩
        case measure => simp [intOf]; omega
      | false =>
        have HX := Lib.hid (show badI ⟨xk, xi⟩ = true by simp [badI, hx])
        have HC := Lib.hid fun W => by have q := bad_any xk xi W; rw [hx] at q; exact q
        clear hx
        go_wp2_with (go_at_call 47; refine (HC.out _).mono ?_; rintro e w1 ⟨rfl, hb1⟩; have HB1 := Lib.hid (HBW.out.trans (hb1.mono HBW.out.size)); clear hb1)
        go_ret
        exact ⟨⟨_, rfl, ⟨fun _ => by omega, fun _ => List.any_eq_true.2 ⟨_, HMM.out, HX.out⟩⟩⟩, HB1.out⟩
    · obtain rfl : k = l.length := by omega
      have hq := HQ.out
      rw [List.take_length] at hq
      have HQ2 := Lib.hid hq
      have HBW := Lib.hid hbw
      clear HQ hq HR hbw
      go_wp2_with fail
      go_ret
      exact ⟨⟨_, rfl, by rw [HQ2.out]; simp⟩, HBW.out⟩
set_option maxHeartbeats 1000000 in
theorem cfc_any (A : Option Addr) (c : Nat) (l : List S63) (w : World) (hr : k63.C w A l.length l) :
    Calls Try.prog 46 #[.slice A l.length c, .func (.func 47) #[] #[]] w fun e w' => e = .returned (.bool (l.any badI)) ∧ Below w.heap.size w w' := by
  have HR := Lib.hid (ixc_any A c l w hr)
  clear hr
  go_enter Try.func46, Try.ntmps46
  go_wp2_with (go_at_call 53; refine HR.out.mono ?_; rintro e w1 ⟨⟨i, rfl, hi⟩, hb⟩; have HI := Lib.hid hi; have HB := Lib.hid hb; clear hi hb)
  go_ret
  exact ⟨rb (by rw [Bool.eq_iff_iff, HI.out]; simp), HB.out⟩
def ckE (l : List S63) : Int := if 65536 < l.length then 12 else if l.any badI then 10 else 0
set_option maxHeartbeats 1000000 in
theorem ck_any (A : Option Addr) (c : Nat) (l : List S63) (w : World) (hr : k63.C w A l.length l) :
    Calls Try.prog 39 #[.slice A l.length c] w fun e w' => e = .returned (.int .i64 (ckE l)) ∧ Below w.heap.size w w' := by
  have HR := Lib.hid (cfc_any A c l w hr)
  have hm := hr.2.1
  have HE := Lib.hid (show ckE l = if 65536 < l.length then 12 else if l.any badI then 10 else 0 from rfl)
  generalize ckE l = E at *
  clear hr
  by_cases h1 : 65536 < l.length
  · have HE := Lib.hid (HE.out.trans (if_pos h1))
    have h2 : (65536 : Int) < (l.length : Int) := by omega
    go_enter Try.func39, Try.ntmps39
    go_wp2_with fail
    go_ret
    exact ⟨by rw [HE.out]; rfl, Below.refl _ _⟩
  · have HE := Lib.hid (HE.out.trans (if_neg h1))
    have h2 : ¬ (65536 : Int) < (l.length : Int) := by omega
    cases hb : l.any badI with
    | true =>
      rw [hb] at HR HE
      simp only [if_true] at HE
      clear hb
      go_enter Try.func39, Try.ntmps39
      go_wp2_with (go_at_call 46; refine HR.out.mono ?_; rintro e w1 ⟨rfl, hb⟩; have HB := Lib.hid hb; clear hb)
      go_ret
      exact ⟨by rw [HE.out]; rfl, HB.out⟩
    | false =>
      rw [hb] at HR HE
      simp only [Bool.false_eq_true, if_false] at HE
      clear hb
      go_enter Try.func39, Try.ntmps39
      go_wp2_with (go_at_call 46; refine HR.out.mono ?_; rintro e w1 ⟨rfl, hb⟩; have HB := Lib.hid hb; clear hb)
      go_ret
      exact ⟨by rw [HE.out]; rfl, HB.out⟩
def overI (n : Nat) (x : S63) : Bool := decide ((n : Int) < x.f1)
def fitsB (ws cs : List Int) (l : List S63) : Bool := rightB ws cs && (decide (ckE l = 0) && !l.any (overI cs.length))
set_option maxHeartbeats 4000000 in
theorem fits_any (A0 : Option Addr) (c0 : Nat) (ws : List Int) (A1 : Option Addr) (c1 : Nat) (cs : List Int) (A : Option Addr) (c : Nat) (l : List S63) (w : World) (h0 : Kd.C (Kd.int .i64) w A0 ws.length ws) (hc0 : ws.length ≤ c0) (h1 : Kd.C (Kd.int .i64) w A1 cs.length cs) (hc1 : cs.length ≤ c1) (hr : k63.C w A l.length l) :
    Calls Try.prog 25 #[.agg #[.slice A0 ws.length c0, .slice A1 cs.length c1], .slice A l.length c] w fun e w' => e = .returned (.bool (fitsB ws cs l)) ∧ Below w.heap.size w w' := by
  obtain ⟨W, hW⟩ : ∃ W, W = w.alloc (.cells #[.slice A0 ws.length c0, .slice A1 cs.length c1] 24) := ⟨_, rfl⟩
  have hb : Below w.heap.size w W := by rw [hW]; exact (Below.refl _ _).alloc (Nat.le_refl _) _
  have hP : Blk W w.heap.size 24 #[.slice A0 ws.length c0, .slice A1 cs.length c1] := by rw [hW]; exact Blk.new _ _ _
  have HR := Lib.hid (chain_Chain_Right.calls A0 c0 ws A1 c1 cs (rightB ws cs) W (Kd.C_below h0 hb) hc0 (Kd.C_below h1 hb) hc1 rfl)
  have HC := Lib.hid fun w1 (hb1 : Below W.heap.size W w1) => ck_any A c l w1 (Kd.C_below (Kd.C_below hr hb) hb1)
  have m1 := h1.2.1
  have m2 := hr.2.1
  have p0 := hP.cell 0
  have p1 := hP.cell 1
  simp only [List.getElem?_toArray, List.getElem?_cons_zero, List.getElem?_cons_succ] at p0 p1
  have HCR := Lib.hid (Kd.C_below hr hb)
  have HP := Lib.hid hP; have HB := Lib.hid hb; have HW := Lib.hid hW
  have HX := Lib.hid (show fitsB ws cs l = (rightB ws cs && (decide (ckE l = 0) && !l.any (overI cs.length))) from rfl)
  generalize fitsB ws cs l = F at *
  clear h0 h1 hc0 hc1 hr hb hP hW
  cases hr : rightB ws cs with
  | false =>
    rw [hr] at HR HX
    have HX := Lib.hid (HX.out.trans (Bool.false_and _))
    clear hr
    go_enter Try.func25, Try.ntmps25
    go_wp2_with (go_at_call 17; rw [← HW.out]; refine HR.out.mono ?_; rintro e w1 ⟨rfl, hb1⟩; have HB1 := Lib.hid (HB.out.trans (hb1.mono HB.out.size)); clear hb1)
    go_ret
    exact ⟨by rw [HX.out]; rfl, HB1.out⟩
  | true =>
    rw [hr] at HR HX
    have HX := Lib.hid (HX.out.trans (Bool.true_and _))
    clear hr
    by_cases hk : ckE l = 0
    · have HX := Lib.hid (HX.out.trans (by rw [decide_eq_true hk, Bool.true_and]))
      have HC0 : Hid (∀ w1, Below W.heap.size W w1 → Calls Try.prog 39 #[.slice A l.length c] w1 fun e w' => e = .returned (.int .i64 0) ∧ Below w1.heap.size w1 w') := Lib.hid fun w1 hb1 => by have q := HC.out w1 hb1; rw [hk] at q; exact q
      clear hk
      go_enter Try.func25, Try.ntmps25
      go_wp2_with (first | (go_at_call 17; rw [← HW.out]; refine HR.out.mono ?_; rintro e w1 ⟨rfl, hb1⟩; have HB1 := Lib.hid hb1; clear hb1) | (go_at_call 39; refine (HC0.out _ HB1.out).mono ?_; rintro e w2 ⟨rfl, hb2⟩; have HB2 := Lib.hid (HB1.out.trans (hb2.mono HB1.out.size)); clear hb2))
      go_loopw [17] (fun i wr => ∃ k : Nat, k ≤ l.length ∧ i = .int .i64 k ∧ Hid ((l.take k).any (overI cs.length) = false) ∧ Below W.heap.size W wr) (fun i _ => l.length - (intOf i).toNat)
      case atStart => exact ⟨0, by omega, rfl, (by simp : (l.take 0).any (overI cs.length) = false), HB2.out⟩
      case round =>
        obtain ⟨k, hk, rfl, HQ, hbw⟩ := hrel
        by_cases hlt : k < l.length
        · obtain ⟨b, o, rfl, hb, hc⟩ := C2_at HCR.out (by omega)
          have hck := hc k hlt
          have h0 := (hbw.cell (p := ⟨b, o + k * 2, none⟩) hb).trans hck.1
          have h1 := (hbw.cell (p := ⟨b, o + k * 2 + 1, none⟩) hb).trans hck.2
          have hPr := HP.out.below (hbw.alloc hbw.size (.cells #[.int .i64 l[k].f0, .int .i64 l[k].f1] 63)) HP.out.lt
          have p1 := hPr.cell 1
          simp only [List.getElem?_toArray, List.getElem?_cons_zero, List.getElem?_cons_succ] at p1
          have HSN := Lib.hid (List.take_succ_eq_append_getElem hlt)
          have HMM := Lib.hid (List.getElem_mem hlt)
          have HBW := Lib.hid hbw
          clear hc hck hbw hPr
          generalize l[k] = x at *
          obtain ⟨xk, xi⟩ := x
          simp only at h0 h1 p1
          by_cases hov : (cs.length : Int) < xi
          · have HO := Lib.hid (show overI cs.length ⟨xk, xi⟩ = true from decide_eq_true hov)
            go_wp2_with fail
            go_ret
            exact ⟨by rw [HX.out, show l.any (overI cs.length) = true from List.any_eq_true.2 ⟨_, HMM.out, HO.out⟩]; rfl, HB.out.trans ((HBW.out.alloc HBW.out.size _).mono HB.out.size)⟩
          · have HO := Lib.hid (show overI cs.length ⟨xk, xi⟩ = false from decide_eq_false hov)
            go_wp2_with fail
            go_roundw
            case rel => exact ⟨k + 1, by omega, by go_num, (by rw [HSN.out, List.any_append, HQ.out]; simp [HO.out] : (l.take (k + 1)).any (overI cs.length) = false), HBW.out.alloc HBW.out.size _⟩
            case measure => simp [intOf]; omega
        · obtain rfl : k = l.length := by omega
          have hq := HQ.out
          rw [List.take_length] at hq
          have HQ2 := Lib.hid hq
          have HBW := Lib.hid hbw
          clear HQ hq HCR hbw
          go_wp2_with fail
          go_ret
          exact ⟨by rw [HX.out, HQ2.out]; rfl, HB.out.trans (HBW.out.mono HB.out.size)⟩
    · have HX := Lib.hid (HX.out.trans (by rw [decide_eq_false hk, Bool.false_and]))
      have hkb : (ckE l != 0) = true := by simpa using hk
      clear hk
      go_enter Try.func25, Try.ntmps25
      go_wp2_with (first | (go_at_call 17; rw [← HW.out]; refine HR.out.mono ?_; rintro e w1 ⟨rfl, hb1⟩; have HB1 := Lib.hid hb1; clear hb1) | (go_at_call 39; refine (HC.out _ HB1.out).mono ?_; rintro e w2 ⟨rfl, hb2⟩; have HB2 := Lib.hid (HB1.out.trans (hb2.mono HB1.out.size)); clear hb2))
      go_ret
      exact ⟨by rw [HX.out]; rfl, HB.out.trans (HB2.out.mono HB.out.size)⟩
end Go.Proofs.Ytiejdbdbafmccaa
/- part ChWk -/
namespace Go.Proofs.Ytiejdbdbafmccaa
open Go.RowKit Go.Proofs.YtiejdbdbafmccaaW.PrintWords Go.Proofs.YtiejdbdbafmccaaW.PrintLast Go.Proofs.Ytiejdbdbafmccaa.PCh
structure Wk where
  th : Nat → Bool
  sv : Nat → Bool
  gr : Nat → Bool
  em : Bool
  sd : Bool
  dn : Int
  wd : Int
  ct : Int
  pk : Int
def upB (f : Nat → Bool) (i : Nat) (b : Bool) : Nat → Bool := fun k => if k = i then b else f k
def Wk.at (x : Wk) (v0 v1 : Value) (cap : Int) (i : Nat) : Value :=
  if i = 0 then v0 else if i = 1 then v1 else if i = 2 then .int .i64 cap else if i < 68 then .bool (x.th (i - 3)) else if i < 133 then .bool (x.sv (i - 68)) else if i < 198 then .bool (x.gr (i - 133)) else
  if i = 198 then .bool x.em else if i = 199 then .bool x.sd else if i = 200 then .int .i64 x.dn else if i = 201 then .int .i64 x.wd else if i = 202 then .int .i64 x.ct else .int .i64 x.pk
structure WV (N gw b0 o0 c0 b1 o1 c1 : Nat) (ws cs : List Int) (cap : Int) (x : Wk) (w : World) : Prop where
  blk : ∃ cl, Blk w gw 70 cl ∧ cl.size = 204 ∧ ∀ i, i < 204 → cl[i]? = some (x.at (.slice (some ⟨b0, o0, none⟩) ws.length c0) (.slice (some ⟨b1, o1, none⟩) cs.length c1) cap i)
  ws_ : ∀ i, i < ws.length → w.cell? ⟨b0, o0 + i, none⟩ = some (.int .i64 (ws.getD i 0))
  cs_ : ∀ i, i < cs.length → w.cell? ⟨b1, o1 + i, none⟩ = some (.int .i64 (cs.getD i 0))
  hb : (b0 < N ∧ b1 < N) ∧ N ≤ gw
theorem ite_r {α : Type} {P : Prop} [Decidable P] {a b b' : α} (h : ¬ P → b = b') : (if P then a else b) = if P then a else b' := by
  by_cases hp : P
  · rw [if_pos hp, if_pos hp]
  · rw [if_neg hp, if_neg hp, h hp]
theorem ite_l {α : Type} {P : Prop} [Decidable P] {a a' b : α} (h : P → a = a') : (if P then a else b) = if P then a' else b := by
  by_cases hp : P
  · rw [if_pos hp, if_pos hp, h hp]
  · rw [if_neg hp, if_neg hp]
theorem if_congr_ {α : Type} {P : Prop} [Decidable P] {a a' b : α} (h : ¬ P) : (if P then a else b) = if P then a' else b := by rw [if_neg h, if_neg h]
section
variable {N gw b0 o0 c0 b1 o1 c1 : Nat} {ws cs : List Int} {cap : Int} {x x' : Wk} {w w' : World}
theorem WV.lt (h : WV N gw b0 o0 c0 b1 o1 c1 ws cs cap x w) : gw < w.heap.size := by
  obtain ⟨cl, hb, _⟩ := h.blk
  exact hb.lt
theorem WV.cell (h : WV N gw b0 o0 c0 b1 o1 c1 ws cs cap x w) {i : Nat} (hi : i < 204) : w.cell? ⟨gw, i, none⟩ = some (x.at (.slice (some ⟨b0, o0, none⟩) ws.length c0) (.slice (some ⟨b1, o1, none⟩) cs.length c1) cap i) := by
  obtain ⟨cl, hb, _, hc⟩ := h.blk
  rw [hb.cell i, hc i hi]
theorem WV.frozen (h : WV N gw b0 o0 c0 b1 o1 c1 ws cs cap x w) (i : Nat) : w.frozen? ⟨gw, i, none⟩ = false := by
  obtain ⟨cl, hb, _⟩ := h.blk
  exact hb.frozen i
theorem WV.below (h : WV N gw b0 o0 c0 b1 o1 c1 ws cs cap x w) (hb : Below w.heap.size w w') : WV N gw b0 o0 c0 b1 o1 c1 ws cs cap x w' := by
  obtain ⟨cl, hk, hz, hc⟩ := h.blk
  have hcc : ∀ (b o : Nat) (v : Value), w.cell? ⟨b, o, none⟩ = some v → w'.cell? ⟨b, o, none⟩ = some v := fun b o v hv => (hb.cell (p := ⟨b, o, none⟩) (World.block_lt_of_cell? w _ hv)).trans hv
  exact ⟨⟨cl, hk.below hb hk.lt, hz, hc⟩, fun i hi => hcc _ _ _ (h.ws_ i hi), fun i hi => hcc _ _ _ (h.cs_ i hi), h.hb⟩
theorem WV.put (h : WV N gw b0 o0 c0 b1 o1 c1 ws cs cap x w) {i : Nat} (hi : i < 204) (v : Value) (hx : ∀ v0 v1, ∀ j, j < 204 → x'.at v0 v1 cap j = if j = i then v else x.at v0 v1 cap j) : WV N gw b0 o0 c0 b1 o1 c1 ws cs cap x' (w.setCell ⟨gw, i, none⟩ v) := by
  obtain ⟨cl, hk, hz, hc⟩ := h.blk
  have hbb := h.hb
  have hf : Frm [some gw] w (w.setCell ⟨gw, i, none⟩ v) := (Frm.refl _ _).setCell (Or.inl (by simp)) v
  have hcc : ∀ (b o : Nat) (u : Value), b < N → w.cell? ⟨b, o, none⟩ = some u → (w.setCell ⟨gw, i, none⟩ v).cell? ⟨b, o, none⟩ = some u := fun b o u hlt hu => by
    have hne : b ≠ gw := by omega
    exact (hf.cell (World.block_lt_of_cell? w _ hu) (by simpa using hne)).trans hu
  refine ⟨⟨cl.setIfInBounds i v, hk.set_ i v, by simpa using hz, fun j hj => ?_⟩, fun i hi => hcc _ _ _ (by omega) (h.ws_ i hi), fun i hi => hcc _ _ _ (by omega) (h.cs_ i hi), h.hb⟩
  rw [hx _ _ j hj, Array.getElem?_setIfInBounds]
  by_cases he : i = j
  · subst he
    simp [show i < cl.size from by omega]
  · rw [if_neg he, if_neg (fun e => he e.symm), hc j hj]
theorem WV.k0 (h : WV N gw b0 o0 c0 b1 o1 c1 ws cs cap x w) : w.cell? ⟨gw, 0, none⟩ = some (.slice (some ⟨b0, o0, none⟩) ws.length c0) := h.cell (i := 0) (by omega)
theorem WV.k1 (h : WV N gw b0 o0 c0 b1 o1 c1 ws cs cap x w) : w.cell? ⟨gw, 1, none⟩ = some (.slice (some ⟨b1, o1, none⟩) cs.length c1) := h.cell (i := 1) (by omega)
theorem WV.k2 (h : WV N gw b0 o0 c0 b1 o1 c1 ws cs cap x w) : w.cell? ⟨gw, 2, none⟩ = some (.int .i64 cap) := h.cell (i := 2) (by omega)
theorem WV.kth (h : WV N gw b0 o0 c0 b1 o1 c1 ws cs cap x w) {i : Nat} (hi : i < 65) : w.cell? ⟨gw, 3 + i, none⟩ = some (.bool (x.th i)) := by
  rw [h.cell (i := 3 + i) (by omega)]
  unfold Wk.at
  rw [if_neg (by omega), if_neg (by omega), if_neg (by omega), if_pos (by omega), show 3 + i - 3 = i from by omega]
theorem WV.ksv (h : WV N gw b0 o0 c0 b1 o1 c1 ws cs cap x w) {i : Nat} (hi : i < 65) : w.cell? ⟨gw, 68 + i, none⟩ = some (.bool (x.sv i)) := by
  rw [h.cell (i := 68 + i) (by omega)]
  unfold Wk.at
  rw [if_neg (by omega), if_neg (by omega), if_neg (by omega), if_neg (by omega), if_pos (by omega), show 68 + i - 68 = i from by omega]
theorem WV.kgr (h : WV N gw b0 o0 c0 b1 o1 c1 ws cs cap x w) {i : Nat} (hi : i < 65) : w.cell? ⟨gw, 133 + i, none⟩ = some (.bool (x.gr i)) := by
  rw [h.cell (i := 133 + i) (by omega)]
  unfold Wk.at
  rw [if_neg (by omega), if_neg (by omega), if_neg (by omega), if_neg (by omega), if_neg (by omega), if_pos (by omega), show 133 + i - 133 = i from by omega]
theorem WV.kem (h : WV N gw b0 o0 c0 b1 o1 c1 ws cs cap x w) : w.cell? ⟨gw, 198, none⟩ = some (.bool x.em) := h.cell (i := 198) (by omega)
theorem WV.ksd (h : WV N gw b0 o0 c0 b1 o1 c1 ws cs cap x w) : w.cell? ⟨gw, 199, none⟩ = some (.bool x.sd) := h.cell (i := 199) (by omega)
theorem WV.kdn (h : WV N gw b0 o0 c0 b1 o1 c1 ws cs cap x w) : w.cell? ⟨gw, 200, none⟩ = some (.int .i64 x.dn) := h.cell (i := 200) (by omega)
theorem WV.kwd (h : WV N gw b0 o0 c0 b1 o1 c1 ws cs cap x w) : w.cell? ⟨gw, 201, none⟩ = some (.int .i64 x.wd) := h.cell (i := 201) (by omega)
theorem WV.kct (h : WV N gw b0 o0 c0 b1 o1 c1 ws cs cap x w) : w.cell? ⟨gw, 202, none⟩ = some (.int .i64 x.ct) := h.cell (i := 202) (by omega)
theorem WV.kpk (h : WV N gw b0 o0 c0 b1 o1 c1 ws cs cap x w) : w.cell? ⟨gw, 203, none⟩ = some (.int .i64 x.pk) := h.cell (i := 203) (by omega)
theorem WV.sth (h : WV N gw b0 o0 c0 b1 o1 c1 ws cs cap x w) {i : Nat} (hi : i < 65) (b : Bool) : WV N gw b0 o0 c0 b1 o1 c1 ws cs cap { x with th := upB x.th i b } (w.setCell ⟨gw, 3 + i, none⟩ (.bool b)) :=
  h.put (i := 3 + i) (by omega) _ fun v0 v1 j hj => by
    unfold Wk.at
    simp only [upB]
    by_cases he : j = 3 + i
    · subst he
      rw [if_pos rfl, if_neg (by omega), if_neg (by omega), if_neg (by omega), if_pos (by omega), if_pos (by omega)]
    · rw [if_neg he]
      exact ite_r fun _ => ite_r fun _ => ite_r fun _ => ite_l fun _ => by rw [if_neg (by omega)]
theorem WV.ssv (h : WV N gw b0 o0 c0 b1 o1 c1 ws cs cap x w) {i : Nat} (hi : i < 65) (b : Bool) : WV N gw b0 o0 c0 b1 o1 c1 ws cs cap { x with sv := upB x.sv i b } (w.setCell ⟨gw, 68 + i, none⟩ (.bool b)) :=
  h.put (i := 68 + i) (by omega) _ fun v0 v1 j hj => by
    unfold Wk.at
    simp only [upB]
    by_cases he : j = 68 + i
    · subst he
      rw [if_pos rfl, if_neg (by omega), if_neg (by omega), if_neg (by omega), if_neg (by omega), if_pos (by omega), if_pos (by omega)]
    · rw [if_neg he]
      exact ite_r fun _ => ite_r fun _ => ite_r fun _ => ite_r fun _ => ite_l fun _ => by rw [if_neg (by omega)]
theorem WV.sgr (h : WV N gw b0 o0 c0 b1 o1 c1 ws cs cap x w) {i : Nat} (hi : i < 65) (b : Bool) : WV N gw b0 o0 c0 b1 o1 c1 ws cs cap { x with gr := upB x.gr i b } (w.setCell ⟨gw, 133 + i, none⟩ (.bool b)) :=
  h.put (i := 133 + i) (by omega) _ fun v0 v1 j hj => by
    unfold Wk.at
    simp only [upB]
    by_cases he : j = 133 + i
    · subst he
      rw [if_pos rfl, if_neg (by omega), if_neg (by omega), if_neg (by omega), if_neg (by omega), if_neg (by omega), if_pos (by omega), if_pos (by omega)]
    · rw [if_neg he]
      exact ite_r fun _ => ite_r fun _ => ite_r fun _ => ite_r fun _ => ite_r fun _ => ite_l fun _ => by rw [if_neg (by omega)]
theorem WV.sem (h : WV N gw b0 o0 c0 b1 o1 c1 ws cs cap x w) (b : Bool) : WV N gw b0 o0 c0 b1 o1 c1 ws cs cap { x with em := b } (w.setCell ⟨gw, 198, none⟩ (.bool b)) :=
  h.put (i := 198) (by omega) _ fun v0 v1 j hj => by
    unfold Wk.at
    by_cases he : j = 198
    · subst he
      rfl
    · refine Eq.trans ?_ (if_neg he).symm
      iterate 6 refine ite_r fun _ => ?_
      rw [if_neg he, if_neg he]
theorem WV.ssd (h : WV N gw b0 o0 c0 b1 o1 c1 ws cs cap x w) (b : Bool) : WV N gw b0 o0 c0 b1 o1 c1 ws cs cap { x with sd := b } (w.setCell ⟨gw, 199, none⟩ (.bool b)) :=
  h.put (i := 199) (by omega) _ fun v0 v1 j hj => by
    unfold Wk.at
    by_cases he : j = 199
    · subst he
      rfl
    · refine Eq.trans ?_ (if_neg he).symm
      iterate 7 refine ite_r fun _ => ?_
      rw [if_neg he, if_neg he]
theorem WV.sdn (h : WV N gw b0 o0 c0 b1 o1 c1 ws cs cap x w) (b : Int) : WV N gw b0 o0 c0 b1 o1 c1 ws cs cap { x with dn := b } (w.setCell ⟨gw, 200, none⟩ (.int .i64 b)) :=
  h.put (i := 200) (by omega) _ fun v0 v1 j hj => by
    unfold Wk.at
    by_cases he : j = 200
    · subst he
      rfl
    · refine Eq.trans ?_ (if_neg he).symm
      iterate 8 refine ite_r fun _ => ?_
      rw [if_neg he, if_neg he]
theorem WV.swd (h : WV N gw b0 o0 c0 b1 o1 c1 ws cs cap x w) (b : Int) : WV N gw b0 o0 c0 b1 o1 c1 ws cs cap { x with wd := b } (w.setCell ⟨gw, 201, none⟩ (.int .i64 b)) :=
  h.put (i := 201) (by omega) _ fun v0 v1 j hj => by
    unfold Wk.at
    by_cases he : j = 201
    · subst he
      rfl
    · refine Eq.trans ?_ (if_neg he).symm
      iterate 9 refine ite_r fun _ => ?_
      rw [if_neg he, if_neg he]
theorem WV.sct (h : WV N gw b0 o0 c0 b1 o1 c1 ws cs cap x w) (b : Int) : WV N gw b0 o0 c0 b1 o1 c1 ws cs cap { x with ct := b } (w.setCell ⟨gw, 202, none⟩ (.int .i64 b)) :=
  h.put (i := 202) (by omega) _ fun v0 v1 j hj => by
    unfold Wk.at
    by_cases he : j = 202
    · subst he
      rfl
    · refine Eq.trans ?_ (if_neg he).symm
      iterate 10 refine ite_r fun _ => ?_
      rw [if_neg he, if_neg he]
theorem WV.spk (h : WV N gw b0 o0 c0 b1 o1 c1 ws cs cap x w) (b : Int) : WV N gw b0 o0 c0 b1 o1 c1 ws cs cap { x with pk := b } (w.setCell ⟨gw, 203, none⟩ (.int .i64 b)) :=
  h.put (i := 203) (by omega) _ fun v0 v1 j hj => by
    unfold Wk.at
    by_cases he : j = 203
    · subst he
      rfl
    · rw [if_neg he]
      exact ite_r fun _ => ite_r fun _ => ite_r fun _ => ite_r fun _ => ite_r fun _ => ite_r fun _ => ite_r fun _ => ite_r fun _ => ite_r fun _ => ite_r fun _ => ite_r fun _ => absurd (show j = 203 by omega) he
end
end Go.Proofs.Ytiejdbdbafmccaa
/- part ChMay -/
namespace Go.Proofs.Ytiejdbdbafmccaa
open Go.RowKit Go.Proofs.YtiejdbdbafmccaaW.PrintWords Go.Proofs.YtiejdbdbafmccaaW.PrintLast Go.Proofs.Ytiejdbdbafmccaa.PCh
def rdyB (x : Wk) (id : Nat) : Bool := decide (id = 1) || x.th (id - 1)
set_option maxHeartbeats 1000000 in
theorem ready_any {N gw b0 o0 c0 b1 o1 c1 : Nat} {ws cs : List Int} {cap : Int} {x : Wk} {w : World} (h : WV N gw b0 o0 c0 b1 o1 c1 ws cs cap x w) (id : Nat) (h1 : 1 ≤ id) (h2 : id ≤ 64) :
    Calls Try.prog 49 #[.pointer (some ⟨gw, 0, none⟩), .int .i64 (id : Int)] w fun e w' => e = .returned (.bool (rdyB x id)) ∧ w' = w := by
  have q := h.kth (i := id - 1) (by omega)
  have HX := Lib.hid (show rdyB x id = (decide (id = 1) || x.th (id - 1)) from rfl)
  generalize rdyB x id = R at *
  generalize x.th (id - 1) = T at *
  have i1 : ((id : Int) - 1).toNat = id - 1 := by omega
  have i2 : (0 : Int) ≤ (id : Int) - 1 := by omega
  have i3 : (id : Int) - 1 < 65 := by omega
  have i4 : (1 : Int) ≤ (id : Int) := by omega
  have i5 : (id : Int) ≤ 64 := by omega
  clear h
  by_cases hi : id = 1
  · have HX := Lib.hid (HX.out.trans (by rw [decide_eq_true hi, Bool.true_or]))
    have hib : ((id : Int) == 1) = true := by rw [hi]; rfl
    clear hi
    go_enter Try.func49, Try.ntmps49
    go_wp2_with fail
    go_ret
    exact ⟨by rw [HX.out]; rfl, rfl⟩
  · have HX := Lib.hid (HX.out.trans (by rw [decide_eq_false hi, Bool.false_or]))
    have hib : ((id : Int) == 1) = false := by
      have : ¬ (id : Int) = 1 := by omega
      simpa using this
    clear hi
    go_enter Try.func49, Try.ntmps49
    go_wp2_with fail
    go_ret
    exact ⟨by rw [HX.out]; rfl, rfl⟩
def mayB (x : Wk) (n : Nat) (k : Int) (id : Nat) : Bool :=
  if k = 1 then !x.sv id && rdyB x id else if k = 2 then x.sv id && (!x.th id && rdyB x id) else if k = 3 then x.th id else if k = 4 then x.th n && !x.em else if k = 5 then !x.sd else x.gr id && (rdyB x id && decide ((id : Int) = (n : Int) - x.dn))
structure OkI (n : Nat) (k : Int) (id : Nat) : Prop where
  kd : k = 1 ∨ k = 2 ∨ k = 3 ∨ k = 4 ∨ k = 5 ∨ k = 6
  id0 : k ≠ 4 → k ≠ 5 → 1 ≤ id
  idn : id ≤ n
set_option maxHeartbeats 4000000 in
theorem may_any {N gw b0 o0 c0 b1 o1 c1 : Nat} {ws cs : List Int} {cap : Int} {x : Wk} {w : World} (h : WV N gw b0 o0 c0 b1 o1 c1 ws cs cap x w) (k : Int) (id : Nat) (hk : OkI cs.length k id) (hn : cs.length ≤ 64) (hd0 : 0 ≤ x.dn) (hd1 : x.dn ≤ 1000000) :
    Calls Try.prog 40 #[.pointer (some ⟨gw, 0, none⟩), .agg #[.int .i64 k, .int .i64 (id : Int)]] w fun e w' => e = .returned (.bool (mayB x cs.length k id)) ∧ Below w.heap.size w w' := by
  obtain ⟨W, hW⟩ : ∃ W, W = w.alloc (.cells #[.int .i64 k, .int .i64 (id : Int)] 63) := ⟨_, rfl⟩
  have hbW : Below w.heap.size w W := by rw [hW]; exact (Below.refl _ _).alloc (Nat.le_refl _) _
  have hP : Blk W w.heap.size 63 #[.int .i64 k, .int .i64 (id : Int)] := by rw [hW]; exact Blk.new _ _ _
  have hV := h.below hbW
  have HR : Hid (1 ≤ id → ∀ n, Calls Try.prog 49 #[.pointer (some ⟨gw, 0, none⟩), .int .i64 (id : Int)] (W.drewN n) fun e w' => e = .returned (.bool (rdyB x id)) ∧ w' = W.drewN n) := Lib.hid fun h1 n => ready_any (w := W.drewN n) (hV.below (w' := W.drewN n) ⟨rfl, rfl, rfl, Nat.le_refl _, fun _ _ => rfl⟩) id h1 (by have := hk.idn; omega)
  have HF : Hid (∀ n, Below w.heap.size w (W.drewN n)) := Lib.hid fun n => ⟨hbW.os, hbW.tape, hbW.output, hbW.size, hbW.block⟩
  have hin := hk.idn
  have f1 := hV.k1
  have fs := hV.ksv (i := id) (by omega)
  have ft := hV.kth (i := id) (by omega)
  have fg := hV.kgr (i := id) (by omega)
  have fn := hV.kth (i := cs.length) (by omega)
  have fe := hV.kem
  have fd := hV.ksd
  have fk := hV.kdn
  have e0 := hP.cell 0
  have e1 := hP.cell 1
  simp only [List.getElem?_toArray, List.getElem?_cons_zero, List.getElem?_cons_succ] at e0 e1
  have HX := Lib.hid (show mayB x cs.length k id = if k = 1 then !x.sv id && rdyB x id else if k = 2 then x.sv id && (!x.th id && rdyB x id) else if k = 3 then x.th id else if k = 4 then x.th cs.length && !x.em else if k = 5 then !x.sd else x.gr id && (rdyB x id && decide ((id : Int) = (cs.length : Int) - x.dn)) from rfl)
  have i5 : (id : Int) ≤ 64 := by omega
  have i6 : (0 : Int) ≤ (id : Int) := by omega
  have i7 : (id : Int) < 65 := by omega
  have i8 : (cs.length : Int) < 65 := by omega
  have i9 : (0 : Int) ≤ (cs.length : Int) := by omega
  have HK := Lib.hid hk.kd
  have HI := Lib.hid hk.id0
  have HW := Lib.hid hW
  clear h hP hV hbW hk hW hin
  generalize mayB x cs.length k id = R at *
  generalize rdyB x id = RD at *
  generalize x.sv id = SVB at *
  generalize x.th id = THB at *
  generalize x.gr id = GRB at *
  generalize x.th cs.length = TNB at *
  generalize x.em = EMB at *
  generalize x.sd = SDB at *
  generalize x.dn = DN at *
  generalize cs.length = n at *
  by_cases h1 : k = 1
  · subst h1
    have HR1 := Lib.hid (HR.out (HI.out (by decide) (by decide)))
    have HX := Lib.hid (HX.out.trans (if_pos rfl))
    cases SVB with
    | true =>
      go_enter Try.func40, Try.ntmps40
      go_wp2_with fail
      rw [← HW.out]
      go_quiet (fail)
      go_wp2_with fail
      go_ret
      exact ⟨by rw [HX.out]; rfl, HF.out _⟩
    | false =>
      go_enter Try.func40, Try.ntmps40
      go_wp2_with fail
      rw [← HW.out]
      go_quiet (fail)
      go_wp2_with (go_at_call 49; refine (HR1.out _).mono ?_; rintro e w1 ⟨rfl, rfl⟩)
      go_ret
      exact ⟨by rw [HX.out]; rfl, HF.out _⟩
  by_cases h2 : k = 2
  · subst h2
    have HR1 := Lib.hid (HR.out (HI.out (by decide) (by decide)))
    have HX := Lib.hid (HX.out.trans (by rw [if_neg h1, if_pos rfl]))
    cases SVB <;> cases THB
    all_goals
      go_enter Try.func40, Try.ntmps40
      go_wp2_with fail
      rw [← HW.out]
      go_quiet (fail)
      go_wp2_with (go_at_call 49; refine (HR1.out _).mono ?_; rintro e w1 ⟨rfl, rfl⟩)
      go_ret
      exact ⟨by rw [HX.out]; rfl, HF.out _⟩
  by_cases h3 : k = 3
  · subst h3
    have HX := Lib.hid (HX.out.trans (by rw [if_neg h1, if_neg h2, if_pos rfl]))
    go_enter Try.func40, Try.ntmps40
    go_wp2_with fail
    rw [← HW.out]
    go_quiet (fail)
    go_wp2_with fail
    go_ret
    exact ⟨by rw [HX.out]; rfl, HF.out _⟩
  by_cases h4 : k = 4
  · subst h4
    have HX := Lib.hid (HX.out.trans (by rw [if_neg h1, if_neg h2, if_neg h3, if_pos rfl]))
    cases TNB
    all_goals
      go_enter Try.func40, Try.ntmps40
      go_wp2_with fail
      rw [← HW.out]
      go_quiet (fail)
      go_wp2_with fail
      go_ret
      exact ⟨by rw [HX.out]; rfl, HF.out _⟩
  by_cases h5 : k = 5
  · subst h5
    have HX := Lib.hid (HX.out.trans (by rw [if_neg h1, if_neg h2, if_neg h3, if_neg h4, if_pos rfl]))
    go_enter Try.func40, Try.ntmps40
    go_wp2_with fail
    rw [← HW.out]
    go_quiet (fail)
    go_wp2_with fail
    go_ret
    exact ⟨by rw [HX.out]; rfl, HF.out _⟩
  have h6 : k = 6 := by have := HK.out; omega
  subst h6
  have HR1 := Lib.hid (HR.out (HI.out (by decide) (by decide)))
  have HX := Lib.hid (HX.out.trans (by rw [if_neg h1, if_neg h2, if_neg h3, if_neg h4, if_neg h5]))
  cases GRB <;> cases RD
  all_goals
    go_enter Try.func40, Try.ntmps40
    go_wp2_with fail
    rw [← HW.out]
    go_quiet (fail)
    go_wp2_with (go_at_call 49; refine (HR1.out _).mono ?_; rintro e w1 ⟨rfl, rfl⟩)
    go_ret
    exact ⟨by rw [HX.out]; rfl, HF.out _⟩
end Go.Proofs.Ytiejdbdbafmccaa
/- part ChMore -/
namespace Go.Proofs.Ytiejdbdbafmccaa
open Go.RowKit Go.Proofs.YtiejdbdbafmccaaW.PrintWords Go.Proofs.YtiejdbdbafmccaaW.PrintLast Go.Proofs.Ytiejdbdbafmccaa.PCh
def moreI (ws : List Int) (n : Nat) (k : Int) (id : Nat) : Int :=
  if k = 1 then ws.getD id 0 else if k = 2 then ws.getD id 0 else if k = 5 then ws.getD n 0 else if k = 6 then (if 1 < id then ws.getD (id - 1) 0 else 0) else 0
set_option maxHeartbeats 4000000 in
theorem more_any {N gw b0 o0 c0 b1 o1 c1 : Nat} {ws cs : List Int} {cap : Int} {x : Wk} {w : World} (h : WV N gw b0 o0 c0 b1 o1 c1 ws cs cap x w) (k : Int) (id : Nat) (hk : OkI cs.length k id) (hn : cs.length ≤ 64) (hws : ws.length = cs.length + 1) :
    Calls Try.prog 41 #[.pointer (some ⟨gw, 0, none⟩), .agg #[.int .i64 k, .int .i64 (id : Int)]] w fun e w' => e = .returned (.int .i64 (moreI ws cs.length k id)) ∧ Below w.heap.size w w' := by
  obtain ⟨W, hW⟩ : ∃ W, W = w.alloc (.cells #[.int .i64 k, .int .i64 (id : Int)] 63) := ⟨_, rfl⟩
  have hbW : Below w.heap.size w W := by rw [hW]; exact (Below.refl _ _).alloc (Nat.le_refl _) _
  have hP : Blk W w.heap.size 63 #[.int .i64 k, .int .i64 (id : Int)] := by rw [hW]; exact Blk.new _ _ _
  have hV := h.below hbW
  have HF : Hid (∀ n, Below w.heap.size w (W.drewN n)) := Lib.hid fun n => ⟨hbW.os, hbW.tape, hbW.output, hbW.size, hbW.block⟩
  have hin := hk.idn
  have f0 := hV.k0
  have f1 := hV.k1
  have x0 := hV.ws_ id (by omega)
  have x1 := hV.ws_ cs.length (by omega)
  have x2 := hV.ws_ (id - 1) (by omega)
  have e0 := hP.cell 0
  have e1 := hP.cell 1
  simp only [List.getElem?_toArray, List.getElem?_cons_zero, List.getElem?_cons_succ] at e0 e1
  have HX := Lib.hid (show moreI ws cs.length k id = if k = 1 then ws.getD id 0 else if k = 2 then ws.getD id 0 else if k = 5 then ws.getD cs.length 0 else if k = 6 then (if 1 < id then ws.getD (id - 1) 0 else 0) else 0 from rfl)
  have i5 : (id : Int) ≤ 64 := by omega
  have i6 : (0 : Int) ≤ (id : Int) := by omega
  have i7 : (id : Int) < (ws.length : Int) := by omega
  have i8 : (cs.length : Int) < (ws.length : Int) := by omega
  have i9 : (0 : Int) ≤ (cs.length : Int) := by omega
  have HK := Lib.hid hk.kd
  have HI := Lib.hid hk.id0
  have HW := Lib.hid hW
  clear h hP hV hbW hk hW hin hws hn
  generalize moreI ws cs.length k id = R at *
  generalize ws.getD id 0 = X0 at *
  generalize ws.getD cs.length 0 = X1 at *
  generalize ws.getD (id - 1) 0 = X2 at *
  generalize cs.length = n at *
  generalize ws.length = wn at *
  by_cases h1 : k = 1
  · subst h1
    have HX := Lib.hid (HX.out.trans (if_pos rfl))
    go_enter Try.func41, Try.ntmps41
    go_wp2_with fail
    rw [← HW.out]
    go_quiet (fail)
    go_wp2_with fail
    go_ret
    exact ⟨by rw [HX.out]; rfl, HF.out _⟩
  by_cases h2 : k = 2
  · subst h2
    have HX := Lib.hid (HX.out.trans (by rw [if_neg h1, if_pos rfl]))
    go_enter Try.func41, Try.ntmps41
    go_wp2_with fail
    rw [← HW.out]
    go_quiet (fail)
    go_wp2_with fail
    go_ret
    exact ⟨by rw [HX.out]; rfl, HF.out _⟩
  by_cases h5 : k = 5
  · subst h5
    have HX := Lib.hid (HX.out.trans (by rw [if_neg h1, if_neg h2, if_pos rfl]))
    go_enter Try.func41, Try.ntmps41
    go_wp2_with fail
    rw [← HW.out]
    go_quiet (fail)
    go_wp2_with fail
    go_ret
    exact ⟨by rw [HX.out]; rfl, HF.out _⟩
  by_cases h6 : k = 6
  · subst h6
    by_cases hi : 1 < id
    · have HY := Lib.hid (HX.out.trans (by rw [if_neg h1, if_neg h2, if_neg h5, if_pos rfl, if_pos hi]))
      have hi' : (1 : Int) < (id : Int) := by omega
      have j1 : ((id : Int) - 1).toNat = id - 1 := by omega
      have j2 : (0 : Int) ≤ (id : Int) - 1 := by omega
      have j3 : (id : Int) - 1 < (wn : Int) := by omega
      clear hi HX
      go_enter Try.func41, Try.ntmps41
      go_wp2_with fail
      rw [← HW.out]
      go_quiet (fail)
      go_wp2_with fail
      go_ret
      exact ⟨by rw [HY.out]; rfl, HF.out _⟩
    · have HY := Lib.hid (HX.out.trans (by rw [if_neg h1, if_neg h2, if_neg h5, if_pos rfl, if_neg hi]))
      have hi' : ¬ (1 : Int) < (id : Int) := by omega
      have HF0 := Lib.hid (HF.out 0)
      clear hi HX
      go_enter Try.func41, Try.ntmps41
      go_wp2_with fail
      rw [← HW.out]
      go_ret
      exact ⟨by rw [HY.out]; rfl, HF.out 0⟩
  have HX := Lib.hid (HX.out.trans (by rw [if_neg h1, if_neg h2, if_neg h5, if_neg h6]))
  rcases (show k = 3 ∨ k = 4 by have := HK.out; omega) with h3 | h3
  all_goals
    subst h3
    go_enter Try.func41, Try.ntmps41
    go_wp2_with fail
    rw [← HW.out]
    go_ret
    exact ⟨by rw [HX.out]; rfl, HF.out 0⟩
end Go.Proofs.Ytiejdbdbafmccaa
/- part ChEff -/
namespace Go.Proofs.Ytiejdbdbafmccaa
open Go.RowKit Go.Proofs.YtiejdbdbafmccaaW.PrintWords Go.Proofs.YtiejdbdbafmccaaW.PrintLast Go.Proofs.Ytiejdbdbafmccaa.PCh
def effW (x : Wk) (ws cs : List Int) (k : Int) (id : Nat) : Wk :=
  if k = 1 ∨ k = 2 then { x with th := upB x.th id true, sv := upB x.sv id true, ct := x.ct + cs.getD (id - 1) 0 }
  else if k = 3 then { x with th := upB x.th id false, wd := x.wd - ws.getD id 0 }
  else if k = 4 then { x with em := true }
  else if k = 5 then { x with sd := true, gr := upB x.gr cs.length true }
  else { x with gr := upB (upB x.gr (id - 1) (decide (1 < id))) id false, wd := x.wd - ws.getD id 0, dn := x.dn + 1 }
structure EfP (N gw b0 o0 c0 b1 o1 c1 : Nat) (ws cs : List Int) (cap : Int) (x : Wk) (w : World) (e : Ending) (w' : World) : Prop where
  ret : e = .returned (.tuple #[])
  wv : WV N gw b0 o0 c0 b1 o1 c1 ws cs cap x w'
  fr : Frm [some gw] w w'
structure EfI (N gw b0 o0 c0 b1 o1 c1 : Nat) (ws cs : List Int) (cap : Int) (w : World) (k : Int) (id : Nat) (x : Wk) (wr : World) : Prop where
  wv : WV N gw b0 o0 c0 b1 o1 c1 ws cs cap x wr
  bx : Blk wr w.heap.size 63 #[.int .i64 k, .int .i64 (id : Int)]
  fr : Frm [some gw] w wr
  gl : gw < w.heap.size
section
variable {N gw b0 o0 c0 b1 o1 c1 : Nat} {ws cs : List Int} {cap : Int} {w wr : World} {k : Int} {id : Nat} {x x' : Wk}
theorem EfI.drew (h : EfI N gw b0 o0 c0 b1 o1 c1 ws cs cap w k id x wr) : EfI N gw b0 o0 c0 b1 o1 c1 ws cs cap w k id x wr.drew :=
  ⟨h.wv.below (Below.refl _ _).drew, h.bx.drew, h.fr.drew, h.gl⟩
theorem EfI.set (h : EfI N gw b0 o0 c0 b1 o1 c1 ws cs cap w k id x wr) {i : Nat} {v : Value} (hv : WV N gw b0 o0 c0 b1 o1 c1 ws cs cap x' (wr.setCell ⟨gw, i, none⟩ v)) : EfI N gw b0 o0 c0 b1 o1 c1 ws cs cap w k id x' (wr.setCell ⟨gw, i, none⟩ v) := by
  have hne : w.heap.size ≠ gw := by have := h.gl; omega
  exact ⟨hv, h.bx.far (p := ⟨gw, i, none⟩) hne v, h.fr.setCell (p := ⟨gw, i, none⟩) (Or.inl (by simp)) v, h.gl⟩
theorem EfI.e0 (h : EfI N gw b0 o0 c0 b1 o1 c1 ws cs cap w k id x wr) : wr.cell? ⟨w.heap.size, 0, none⟩ = some (.int .i64 k) := h.bx.cell 0
theorem EfI.e1 (h : EfI N gw b0 o0 c0 b1 o1 c1 ws cs cap w k id x wr) : wr.cell? ⟨w.heap.size, 1, none⟩ = some (.int .i64 (id : Int)) := h.bx.cell 1
theorem EfI.post (h : EfI N gw b0 o0 c0 b1 o1 c1 ws cs cap w k id x wr) (hx : x' = x) : EfP N gw b0 o0 c0 b1 o1 c1 ws cs cap x' w (.returned (.tuple #[])) wr := ⟨rfl, hx ▸ h.wv, h.fr⟩
end
set_option maxRecDepth 100000 in
set_option maxHeartbeats 4000000 in
theorem eff_any {N gw b0 o0 c0 b1 o1 c1 : Nat} {ws cs : List Int} {cap : Int} {x : Wk} {w : World} (h : WV N gw b0 o0 c0 b1 o1 c1 ws cs cap x w) (k : Int) (id : Nat) (hk : OkI cs.length k id) (ht : Rt ws cs) (hd0 : 0 ≤ x.dn) (hd1 : x.dn ≤ 1000000) (hw0 : -9000000000 ≤ x.wd) (hw1 : x.wd ≤ 9000000000) (hc0 : 0 ≤ x.ct) (hc1 : x.ct ≤ 72058693549555712) :
    Calls Try.prog 42 #[.pointer (some ⟨gw, 0, none⟩), .agg #[.int .i64 k, .int .i64 (id : Int)]] w (EfP N gw b0 o0 c0 b1 o1 c1 ws cs cap (effW x ws cs k id) w) := by
  obtain ⟨W, hW⟩ : ∃ W, W = w.alloc (.cells #[.int .i64 k, .int .i64 (id : Int)] 63) := ⟨_, rfl⟩
  have hI : EfI N gw b0 o0 c0 b1 o1 c1 ws cs cap w k id x W := by
    have hbW : Below w.heap.size w W := by rw [hW]; exact (Below.refl _ _).alloc (Nat.le_refl _) _
    exact ⟨h.below hbW, by rw [hW]; exact Blk.new _ _ _, Frm.of_below hbW, h.lt⟩
  have hhi := ht.hi
  have hlen := ht.len
  have hin := hk.idn
  have e0 := hI.e0
  have e1 := hI.e1
  have i5 : (id : Int) ≤ 64 := by omega
  have i6 : (0 : Int) ≤ (id : Int) := by omega
  have i7 : (id : Int) < 65 := by omega
  have i8 : (id : Int) < (ws.length : Int) := by omega
  have j5 := ws_bd ht id
  have j6 := cs_bd ht (id - 1)
  have x0 := hI.wv.ws_ id (by omega)
  have HX0 := Lib.hid fun W (hW : WV N gw b0 o0 c0 b1 o1 c1 ws cs cap x W) => hW.ws_ id (by omega)
  have HWR : Hid (wrap64 (x.wd - ws.getD id 0) = x.wd - ws.getD id 0) := wr64 (by omega) (by omega)
  have HWC : Hid (wrap64 (x.ct + cs.getD (id - 1) 0) = x.ct + cs.getD (id - 1) 0) := wr64 (by omega) (by omega)
  have HWD : Hid (wrap64 (x.dn + 1) = x.dn + 1) := wr64 (by omega) (by omega)
  have HYX : Hid (∀ x' W', WV N gw b0 o0 c0 b1 o1 c1 ws cs cap x' W' → W'.cell? ⟨b0, o0 + id, none⟩ = some (.int .i64 (ws.getD id 0))) := Lib.hid fun x' W' h => h.ws_ id (by omega)
  have HI := Lib.hid hI
  have HW := Lib.hid hW
  by_cases h1 : k = 1 ∨ k = 2
  · have hX : effW x ws cs k id = { x with th := upB x.th id true, sv := upB x.sv id true, ct := x.ct + cs.getD (id - 1) 0 } := by unfold effW; rw [if_pos h1]
    have HX := Lib.hid hX
    have hi1 : 1 ≤ id := hk.id0 (by omega) (by omega)
    have a1 : ((id : Int) - 1).toNat = id - 1 := by omega
    have a2 : (0 : Int) ≤ (id : Int) - 1 := by omega
    have a3 : (id : Int) - 1 < (cs.length : Int) := by omega
    have a4 : (1 : Int) ≤ (id : Int) := by omega
    have a5 : id - 1 < cs.length := by omega
    have a6 : id < 65 := by omega
    have g1 := hI.wv.kth (i := id) (by omega)
    have gz := hI.wv.frozen (3 + id)
    have g2 := hI.wv.ksv (i := id) (by omega)
    have gz2 := hI.wv.frozen (68 + id)
    have HA5 := Lib.hid (And.intro a5 a6)
    have HWI : Hid (wrap64 ((id : Int) - 1) = (id : Int) - 1) := wr64 (by omega) (by omega)
    clear h hk hW hin hX ht hI x0 a5 a6 hlen hhi
    have HYC : Hid (∀ x' W', WV N gw b0 o0 c0 b1 o1 c1 ws cs cap x' W' → W'.cell? ⟨b1, o1 + (id - 1), none⟩ = some (.int .i64 (cs.getD (id - 1) 0))) := Lib.hid fun x' W' h => h.cs_ (id - 1) HA5.out.1
    generalize cs.getD (id - 1) 0 = Y at *
    have HK := Lib.hid h1
    rcases h1 with h1 | h1
    · subst h1
      go_enter Try.func42, Try.ntmps42
      go_wp2_with fail
      rw [← HW.out]
      refine start_ (n := 14) (S := fun w' => w'.cell? ⟨w.heap.size, 1, none⟩ = some (.int .i64 (id : Int))) (ds := [13]) #[false, false, false, false, false, false, false, false, false, false, false, false, false, false] (by kernel_rfl) rfl rfl (e1) (fun hHeld => ?_)
      refine pure_ (i := 0) (N := some 9) (v := ?_) (a' := ?_) #[true, false, false, false, false, false, false, false, false, false, false, false, false, false] rfl rfl (by kernel_rfl) (fun _ _ _ h => h) (Or.inl ⟨by rfl, ?_⟩) ?_ ?_
      rotate_left
      · intro w'
        go_simp
        with_reducible rfl
      rotate_left
      · simp only [Act.put, List.setIfInBounds_toArray, List.set_cons_zero, List.set_cons_succ, i64_w, i32_w]
        rfl
      refine pure_ (i := 1) (N := some 10) (v := ?_) (a' := ?_) #[true, true, false, false, false, false, false, false, false, false, false, false, false, false] rfl rfl (by kernel_rfl) (fun _ _ _ h => h) (Or.inl ⟨by rfl, ?_⟩) ?_ ?_
      rotate_left
      · intro w'
        go_simp
        with_reducible rfl
      rotate_left
      · simp only [Act.put, List.setIfInBounds_toArray, List.set_cons_zero, List.set_cons_succ, i64_w, i32_w]
        rfl
      refine pure_ (i := 3) (N := some 12) (v := ?_) (a' := ?_) #[true, true, false, true, false, false, false, false, false, false, false, false, false, false] rfl rfl (by kernel_rfl) (fun _ _ _ h => h) (Or.inl ⟨by rfl, ?_⟩) ?_ ?_
      rotate_left
      · intro w'
        go_simp
        with_reducible rfl
      rotate_left
      · simp only [Act.put, List.setIfInBounds_toArray, List.set_cons_zero, List.set_cons_succ, i64_w, i32_w]
        rfl
      refine pure_ (i := 4) (N := some 13) (v := ?_) (a' := ?_) #[true, true, false, true, true, false, false, false, false, false, false, false, false, false] rfl rfl (by kernel_rfl) (fun _ _ _ h => h) (Or.inl ⟨by rfl, ?_⟩) ?_ ?_
      rotate_left
      · intro w'
        go_simp
        with_reducible rfl
      rotate_left
      · simp only [Act.put, List.setIfInBounds_toArray, List.set_cons_zero, List.set_cons_succ, i64_w, i32_w]
        rfl
      refine pure_ (i := 6) (N := some 15) (v := ?_) (a' := ?_) #[true, true, false, true, true, false, true, false, false, false, false, false, false, false] rfl rfl (by kernel_rfl) (fun _ _ _ h => h) (Or.inl ⟨by rfl, ?_⟩) ?_ ?_
      rotate_left
      · intro w'
        go_simp
        with_reducible rfl
      rotate_left
      · simp only [Act.put, List.setIfInBounds_toArray, List.set_cons_zero, List.set_cons_succ, i64_w, i32_w]
        rfl
      refine pure_ (i := 7) (N := some 16) (v := ?_) (a' := ?_) #[true, true, false, true, true, false, true, true, false, false, false, false, false, false] rfl rfl (by kernel_rfl) (fun _ _ _ h => h) (Or.inl ⟨by rfl, ?_⟩) ?_ ?_
      rotate_left
      · intro w'
        go_simp
        with_reducible rfl
      rotate_left
      · simp only [Act.put, List.setIfInBounds_toArray, List.set_cons_zero, List.set_cons_succ, i64_w, i32_w]
        rfl
      refine pure_ (i := 10) (N := some 18) (v := ?_) (a' := ?_) #[true, true, false, true, true, false, true, true, false, false, true, false, false, false] rfl rfl (by kernel_rfl) (fun _ _ _ h => h) (Or.inl ⟨by rfl, ?_⟩) ?_ ?_
      rotate_left
      · intro w'
        go_simp
        with_reducible rfl
      rotate_left
      · simp only [Act.put, List.setIfInBounds_toArray, List.set_cons_zero, List.set_cons_succ, i64_w, i32_w]
        rfl
      refine pure_ (i := 11) (N := some 19) (v := ?_) (a' := ?_) #[true, true, false, true, true, false, true, true, false, false, true, true, false, false] rfl rfl (by kernel_rfl) (fun _ _ _ h => h) (Or.inl ⟨by rfl, ?_⟩) ?_ ?_
      rotate_left
      · intro w'
        go_simp
        with_reducible rfl
      rotate_left
      · simp only [Act.put, List.setIfInBounds_toArray, List.set_cons_zero, List.set_cons_succ, i64_w, i32_w]
        rfl
      refine take_ (i := 2) (N := some 11) (v := ?_) (a' := ?_) #[true, true, true, true, true, false, true, true, false, false, true, true, false, false] rfl rfl (by kernel_rfl) (fun _ _ _ h => h) (Or.inl ⟨by rfl, ?_⟩) hHeld ?_ ?_
      rotate_left
      · intro w' s0
        go_simp
        with_reducible rfl
      rotate_left
      · simp only [Act.put, List.setIfInBounds_toArray, List.set_cons_zero, List.set_cons_succ, i64_w, i32_w]
        rfl
      refine pure_ (i := 8) (N := some 17) (v := ?_) (a' := ?_) #[true, true, true, true, true, false, true, true, true, false, true, true, false, false] rfl rfl (by kernel_rfl) (fun _ _ _ h => h) (Or.inl ⟨by rfl, ?_⟩) ?_ ?_
      rotate_left
      · intro w'
        go_simp
        with_reducible rfl
      rotate_left
      · simp only [Act.put, List.setIfInBounds_toArray, List.set_cons_zero, List.set_cons_succ, i64_w, i32_w]
        rfl
      refine take_ (i := 5) (N := some 14) (v := ?_) (a' := ?_) #[true, true, true, true, true, true, true, true, true, false, true, true, false, false] rfl rfl (by kernel_rfl) (fun _ _ _ h => h) (Or.inl ⟨by rfl, ?_⟩) hHeld ?_ ?_
      rotate_left
      · intro w' s0
        go_simp
        with_reducible rfl
      rotate_left
      · simp only [Act.put, List.setIfInBounds_toArray, List.set_cons_zero, List.set_cons_succ, i64_w, i32_w]
        rfl
      refine one_ (i := 9) (N := none) #[true, true, true, true, true, true, true, true, true, true, true, true, false, false] rfl rfl (by kernel_rfl) (by decide) (fun K hK => ?_)
      refine skip_ (w1 := ?_) (by rfl) rfl ?_ ?_
      rotate_left
      · go_simp
        rfl
      have hI1 := HI.out.drew.set (HI.out.drew.wv.sth (i := id) HA5.out.2 true)
      refine hK.out _ _ (hI1.e1) (fun hHeld => ?_)
      clear hK K
      refine pure_ (i := 12) (N := some 20) (v := ?_) (a' := ?_) #[true, true, true, true, true, true, true, true, true, true, true, true, true, false] rfl rfl (by kernel_rfl) (fun _ _ _ h => h) (Or.inl ⟨by rfl, ?_⟩) ?_ ?_
      rotate_left
      · intro w'
        go_simp
        with_reducible rfl
      rotate_left
      · simp only [Act.put, List.setIfInBounds_toArray, List.set_cons_zero, List.set_cons_succ, i64_w, i32_w]
        rfl
      refine last_ (i := 13) (N := none) #[true, true, true, true, true, true, true, true, true, true, true, true, true, true] rfl rfl (by kernel_rfl) (by decide) (fun K hK => ?_)
      refine skip_ (w1 := ?_) (by rfl) rfl ?_ ?_
      rotate_left
      · go_simp
        rfl
      refine hK.out _ _ ?_
      clear hK K
      refine done_ (by kernel_rfl) ?_
      obtain ⟨W2, hW2⟩ : ∃ W2, W2 = ((W.setCell ⟨gw, 3 + id, none⟩ (.bool true)).setCell ⟨gw, 68 + id, none⟩ (.bool true)).drew := ⟨_, rfl⟩
      rw [← hW2]
      have hI2 : EfI N gw b0 o0 c0 b1 o1 c1 ws cs cap w 1 id { x with th := upB x.th id true, sv := upB x.sv id true } W2 := by
        rw [hW2]
        have q1 := HI.out.set (HI.out.wv.sth (i := id) HA5.out.2 true)
        exact (q1.set (q1.wv.ssv (i := id) HA5.out.2 true)).drew
      clear hW2 hI1 g2 gz2 g1 gz
      have r1 := hI2.wv.kct
      have r2 := hI2.wv.k1
      have r3 := hI2.e1
      have r4 := HYC.out _ _ hI2.wv
      have rz := hI2.wv.frozen 202
      have HI2 := Lib.hid hI2
      clear hI2 hHeld
      go_wp2_with fail
      have hwi := HWI.out
      refine start_ (n := 18) (S := fun w' => w'.cell? ⟨gw, 202, none⟩ = some (.int .i64 x.ct) ∧ w'.cell? ⟨gw, 1, none⟩ = some (.slice (some ⟨b1, o1, none⟩) cs.length c1) ∧ w'.cell? ⟨w.heap.size, 1, none⟩ = some (.int .i64 (id : Int)) ∧ w'.cell? ⟨b1, o1 + (id - 1), none⟩ = some (.int .i64 Y)) (ds := [17]) #[false, false, false, false, false, false, false, false, false, false, false, false, false, false, false, false, false, false] (by kernel_rfl) rfl rfl ⟨r1, r2, r3, r4⟩ (fun hHeld => ?_)
      refine pure_ (i := 0) (N := some 21) (v := ?_) (a' := ?_) #[true, false, false, false, false, false, false, false, false, false, false, false, false, false, false, false, false, false] rfl rfl (by kernel_rfl) (fun _ _ _ h => h) (Or.inl ⟨by rfl, ?_⟩) ?_ ?_
      rotate_left
      · intro w'
        go_simp
        with_reducible rfl
      rotate_left
      · simp only [Act.put, List.setIfInBounds_toArray, List.set_cons_zero, List.set_cons_succ, i64_w, i32_w]
        rfl
      refine pure_ (i := 1) (N := some 22) (v := ?_) (a' := ?_) #[true, true, false, false, false, false, false, false, false, false, false, false, false, false, false, false, false, false] rfl rfl (by kernel_rfl) (fun _ _ _ h => h) (Or.inl ⟨by rfl, ?_⟩) ?_ ?_
      rotate_left
      · intro w'
        go_simp
        with_reducible rfl
      rotate_left
      · simp only [Act.put, List.setIfInBounds_toArray, List.set_cons_zero, List.set_cons_succ, i64_w, i32_w]
        rfl
      refine pure_ (i := 2) (N := some 23) (v := ?_) (a' := ?_) #[true, true, true, false, false, false, false, false, false, false, false, false, false, false, false, false, false, false] rfl rfl (by kernel_rfl) (fun _ _ _ h => h) (Or.inl ⟨by rfl, ?_⟩) ?_ ?_
      rotate_left
      · intro w'
        go_simp
        with_reducible rfl
      rotate_left
      · simp only [Act.put, List.setIfInBounds_toArray, List.set_cons_zero, List.set_cons_succ, i64_w, i32_w]
        rfl
      refine pure_ (i := 4) (N := some 25) (v := ?_) (a' := ?_) #[true, true, true, false, true, false, false, false, false, false, false, false, false, false, false, false, false, false] rfl rfl (by kernel_rfl) (fun _ _ _ h => h) (Or.inl ⟨by rfl, ?_⟩) ?_ ?_
      rotate_left
      · intro w'
        go_simp
        with_reducible rfl
      rotate_left
      · simp only [Act.put, List.setIfInBounds_toArray, List.set_cons_zero, List.set_cons_succ, i64_w, i32_w]
        rfl
      refine pure_ (i := 5) (N := some 26) (v := ?_) (a' := ?_) #[true, true, true, false, true, true, false, false, false, false, false, false, false, false, false, false, false, false] rfl rfl (by kernel_rfl) (fun _ _ _ h => h) (Or.inl ⟨by rfl, ?_⟩) ?_ ?_
      rotate_left
      · intro w'
        go_simp
        with_reducible rfl
      rotate_left
      · simp only [Act.put, List.setIfInBounds_toArray, List.set_cons_zero, List.set_cons_succ, i64_w, i32_w]
        rfl
      refine pure_ (i := 6) (N := some 27) (v := ?_) (a' := ?_) #[true, true, true, false, true, true, true, false, false, false, false, false, false, false, false, false, false, false] rfl rfl (by kernel_rfl) (fun _ _ _ h => h) (Or.inl ⟨by rfl, ?_⟩) ?_ ?_
      rotate_left
      · intro w'
        go_simp
        with_reducible rfl
      rotate_left
      · simp only [Act.put, List.setIfInBounds_toArray, List.set_cons_zero, List.set_cons_succ, i64_w, i32_w]
        rfl
      refine pure_ (i := 7) (N := some 28) (v := ?_) (a' := ?_) #[true, true, true, false, true, true, true, true, false, false, false, false, false, false, false, false, false, false] rfl rfl (by kernel_rfl) (fun _ _ _ h => h) (Or.inl ⟨by rfl, ?_⟩) ?_ ?_
      rotate_left
      · intro w'
        go_simp
        with_reducible rfl
      rotate_left
      · simp only [Act.put, List.setIfInBounds_toArray, List.set_cons_zero, List.set_cons_succ, i64_w, i32_w]
        rfl
      refine pure_ (i := 9) (N := some 30) (v := ?_) (a' := ?_) #[true, true, true, false, true, true, true, true, false, true, false, false, false, false, false, false, false, false] rfl rfl (by kernel_rfl) (fun _ _ _ h => h) (Or.inl ⟨by rfl, ?_⟩) ?_ ?_
      rotate_left
      · intro w'
        go_simp
        with_reducible rfl
      rotate_left
      · simp only [Act.put, List.setIfInBounds_toArray, List.set_cons_zero, List.set_cons_succ, i64_w, i32_w]
        rfl
      refine take_ (i := 3) (N := some 24) (v := ?_) (a' := ?_) #[true, true, true, true, true, true, true, true, false, true, false, false, false, false, false, false, false, false] rfl rfl (by kernel_rfl) (fun _ _ _ h => h) (Or.inl ⟨by rfl, ?_⟩) hHeld ?_ ?_
      rotate_left
      · rintro w' ⟨s0, s1, s2, s3⟩
        go_simp
        with_reducible rfl
      rotate_left
      · simp only [Act.put, List.setIfInBounds_toArray, List.set_cons_zero, List.set_cons_succ, i64_w, i32_w]
        rfl
      refine take_ (i := 8) (N := some 29) (v := ?_) (a' := ?_) #[true, true, true, true, true, true, true, true, true, true, false, false, false, false, false, false, false, false] rfl rfl (by kernel_rfl) (fun _ _ _ h => h) (Or.inl ⟨by rfl, ?_⟩) hHeld ?_ ?_
      rotate_left
      · rintro w' ⟨s0, s1, s2, s3⟩
        go_simp
        with_reducible rfl
      rotate_left
      · simp only [Act.put, List.setIfInBounds_toArray, List.set_cons_zero, List.set_cons_succ, i64_w, i32_w]
        rfl
      refine take_ (i := 10) (N := some 31) (v := ?_) (a' := ?_) #[true, true, true, true, true, true, true, true, true, true, true, false, false, false, false, false, false, false] rfl rfl (by kernel_rfl) (fun _ _ _ h => h) (Or.inl ⟨by rfl, ?_⟩) hHeld ?_ ?_
      rotate_left
      · rintro w' ⟨s0, s1, s2, s3⟩
        go_simp
        with_reducible rfl
      rotate_left
      · simp only [Act.put, List.setIfInBounds_toArray, List.set_cons_zero, List.set_cons_succ, i64_w, i32_w]
        rfl
      refine pure_ (i := 11) (N := some 32) (v := ?_) (a' := ?_) #[true, true, true, true, true, true, true, true, true, true, true, true, false, false, false, false, false, false] rfl rfl (by kernel_rfl) (fun _ _ _ h => h) (Or.inl ⟨by rfl, ?_⟩) ?_ ?_
      rotate_left
      · intro w'
        go_simp
        with_reducible rfl
      rotate_left
      · simp only [Act.put, List.setIfInBounds_toArray, List.set_cons_zero, List.set_cons_succ, i64_w, i32_w]
        rfl
      refine pure_ (i := 12) (N := some 33) (v := ?_) (a' := ?_) #[true, true, true, true, true, true, true, true, true, true, true, true, true, false, false, false, false, false] rfl rfl (by kernel_rfl) (fun _ _ _ h => h) (Or.inl ⟨by rfl, ?_⟩) ?_ ?_
      rotate_left
      · intro w'
        go_simp
        with_reducible rfl
      rotate_left
      · simp only [Act.put, List.setIfInBounds_toArray, List.set_cons_zero, List.set_cons_succ, i64_w, i32_w]
        rfl
      refine take_ (i := 13) (N := some 34) (v := ?_) (a' := ?_) #[true, true, true, true, true, true, true, true, true, true, true, true, true, true, false, false, false, false] rfl rfl (by kernel_rfl) (fun _ _ _ h => h) (Or.inl ⟨by rfl, ?_⟩) hHeld ?_ ?_
      rotate_left
      · rintro w' ⟨s0, s1, s2, s3⟩
        go_simp
        with_reducible rfl
      rotate_left
      · simp only [Act.put, List.setIfInBounds_toArray, List.set_cons_zero, List.set_cons_succ, i64_w, i32_w]
        rfl
      refine pure_ (i := 14) (N := some 35) (v := ?_) (a' := ?_) #[true, true, true, true, true, true, true, true, true, true, true, true, true, true, true, false, false, false] rfl rfl (by kernel_rfl) (fun _ _ _ h => h) (Or.inl ⟨by rfl, ?_⟩) ?_ ?_
      rotate_left
      · intro w'
        go_simp
        with_reducible rfl
      rotate_left
      · simp only [Act.put, List.setIfInBounds_toArray, List.set_cons_zero, List.set_cons_succ, i64_w, i32_w]
        rfl
      refine pure_ (i := 15) (N := some 36) (v := ?_) (a' := ?_) #[true, true, true, true, true, true, true, true, true, true, true, true, true, true, true, true, false, false] rfl rfl (by kernel_rfl) (fun _ _ _ h => h) (Or.inl ⟨by rfl, ?_⟩) ?_ ?_
      rotate_left
      · intro w'
        go_simp
        with_reducible rfl
      rotate_left
      · simp only [Act.put, List.setIfInBounds_toArray, List.set_cons_zero, List.set_cons_succ, i64_w, i32_w]
        rfl
      refine pure_ (i := 16) (N := some 37) (v := ?_) (a' := ?_) #[true, true, true, true, true, true, true, true, true, true, true, true, true, true, true, true, true, false] rfl rfl (by kernel_rfl) (fun _ _ _ h => h) (Or.inl ⟨by rfl, ?_⟩) ?_ ?_
      rotate_left
      · intro w'
        go_simp
        with_reducible rfl
      rotate_left
      · simp only [Act.put, List.setIfInBounds_toArray, List.set_cons_zero, List.set_cons_succ, i64_w, i32_w]
        rfl
      refine last_ (i := 17) (N := none) #[true, true, true, true, true, true, true, true, true, true, true, true, true, true, true, true, true, true] rfl rfl (by kernel_rfl) (by decide) (fun K hK => ?_)
      refine skip_ (w1 := ?_) (by rfl) rfl ?_ ?_
      rotate_left
      · go_simp
        rfl
      refine hK.out _ _ ?_
      clear hK K
      refine done_ (by kernel_rfl) ?_
      rw [HWC.out]
      clear hwi r1 r2 r3 r4 rz
      obtain ⟨W3, hW3⟩ : ∃ W3, W3 = (W2.setCell ⟨gw, 202, none⟩ (.int .i64 (x.ct + Y))).drew := ⟨_, rfl⟩
      rw [← hW3]
      have hI3 := (HI2.out.set (HI2.out.wv.sct (x.ct + Y))).drew
      rw [← hW3] at hI3
      have HI3 := Lib.hid hI3
      clear hW3 hI3
      go_wp2_with fail
      refine bodyPost_end (results_none rfl _ _ _) rfl ?_
      exact EfI.post HI3.out HX.out
    · subst h1
      go_enter Try.func42, Try.ntmps42
      go_wp2_with fail
      rw [← HW.out]
      refine start_ (n := 14) (S := fun w' => w'.cell? ⟨w.heap.size, 1, none⟩ = some (.int .i64 (id : Int))) (ds := [13]) #[false, false, false, false, false, false, false, false, false, false, false, false, false, false] (by kernel_rfl) rfl rfl (e1) (fun hHeld => ?_)
      refine pure_ (i := 0) (N := some 9) (v := ?_) (a' := ?_) #[true, false, false, false, false, false, false, false, false, false, false, false, false, false] rfl rfl (by kernel_rfl) (fun _ _ _ h => h) (Or.inl ⟨by rfl, ?_⟩) ?_ ?_
      rotate_left
      · intro w'
        go_simp
        with_reducible rfl
      rotate_left
      · simp only [Act.put, List.setIfInBounds_toArray, List.set_cons_zero, List.set_cons_succ, i64_w, i32_w]
        rfl
      refine pure_ (i := 1) (N := some 10) (v := ?_) (a' := ?_) #[true, true, false, false, false, false, false, false, false, false, false, false, false, false] rfl rfl (by kernel_rfl) (fun _ _ _ h => h) (Or.inl ⟨by rfl, ?_⟩) ?_ ?_
      rotate_left
      · intro w'
        go_simp
        with_reducible rfl
      rotate_left
      · simp only [Act.put, List.setIfInBounds_toArray, List.set_cons_zero, List.set_cons_succ, i64_w, i32_w]
        rfl
      refine pure_ (i := 3) (N := some 12) (v := ?_) (a' := ?_) #[true, true, false, true, false, false, false, false, false, false, false, false, false, false] rfl rfl (by kernel_rfl) (fun _ _ _ h => h) (Or.inl ⟨by rfl, ?_⟩) ?_ ?_
      rotate_left
      · intro w'
        go_simp
        with_reducible rfl
      rotate_left
      · simp only [Act.put, List.setIfInBounds_toArray, List.set_cons_zero, List.set_cons_succ, i64_w, i32_w]
        rfl
      refine pure_ (i := 4) (N := some 13) (v := ?_) (a' := ?_) #[true, true, false, true, true, false, false, false, false, false, false, false, false, false] rfl rfl (by kernel_rfl) (fun _ _ _ h => h) (Or.inl ⟨by rfl, ?_⟩) ?_ ?_
      rotate_left
      · intro w'
        go_simp
        with_reducible rfl
      rotate_left
      · simp only [Act.put, List.setIfInBounds_toArray, List.set_cons_zero, List.set_cons_succ, i64_w, i32_w]
        rfl
      refine pure_ (i := 6) (N := some 15) (v := ?_) (a' := ?_) #[true, true, false, true, true, false, true, false, false, false, false, false, false, false] rfl rfl (by kernel_rfl) (fun _ _ _ h => h) (Or.inl ⟨by rfl, ?_⟩) ?_ ?_
      rotate_left
      · intro w'
        go_simp
        with_reducible rfl
      rotate_left
      · simp only [Act.put, List.setIfInBounds_toArray, List.set_cons_zero, List.set_cons_succ, i64_w, i32_w]
        rfl
      refine pure_ (i := 7) (N := some 16) (v := ?_) (a' := ?_) #[true, true, false, true, true, false, true, true, false, false, false, false, false, false] rfl rfl (by kernel_rfl) (fun _ _ _ h => h) (Or.inl ⟨by rfl, ?_⟩) ?_ ?_
      rotate_left
      · intro w'
        go_simp
        with_reducible rfl
      rotate_left
      · simp only [Act.put, List.setIfInBounds_toArray, List.set_cons_zero, List.set_cons_succ, i64_w, i32_w]
        rfl
      refine pure_ (i := 10) (N := some 18) (v := ?_) (a' := ?_) #[true, true, false, true, true, false, true, true, false, false, true, false, false, false] rfl rfl (by kernel_rfl) (fun _ _ _ h => h) (Or.inl ⟨by rfl, ?_⟩) ?_ ?_
      rotate_left
      · intro w'
        go_simp
        with_reducible rfl
      rotate_left
      · simp only [Act.put, List.setIfInBounds_toArray, List.set_cons_zero, List.set_cons_succ, i64_w, i32_w]
        rfl
      refine pure_ (i := 11) (N := some 19) (v := ?_) (a' := ?_) #[true, true, false, true, true, false, true, true, false, false, true, true, false, false] rfl rfl (by kernel_rfl) (fun _ _ _ h => h) (Or.inl ⟨by rfl, ?_⟩) ?_ ?_
      rotate_left
      · intro w'
        go_simp
        with_reducible rfl
      rotate_left
      · simp only [Act.put, List.setIfInBounds_toArray, List.set_cons_zero, List.set_cons_succ, i64_w, i32_w]
        rfl
      refine take_ (i := 2) (N := some 11) (v := ?_) (a' := ?_) #[true, true, true, true, true, false, true, true, false, false, true, true, false, false] rfl rfl (by kernel_rfl) (fun _ _ _ h => h) (Or.inl ⟨by rfl, ?_⟩) hHeld ?_ ?_
      rotate_left
      · intro w' s0
        go_simp
        with_reducible rfl
      rotate_left
      · simp only [Act.put, List.setIfInBounds_toArray, List.set_cons_zero, List.set_cons_succ, i64_w, i32_w]
        rfl
      refine pure_ (i := 8) (N := some 17) (v := ?_) (a' := ?_) #[true, true, true, true, true, false, true, true, true, false, true, true, false, false] rfl rfl (by kernel_rfl) (fun _ _ _ h => h) (Or.inl ⟨by rfl, ?_⟩) ?_ ?_
      rotate_left
      · intro w'
        go_simp
        with_reducible rfl
      rotate_left
      · simp only [Act.put, List.setIfInBounds_toArray, List.set_cons_zero, List.set_cons_succ, i64_w, i32_w]
        rfl
      refine take_ (i := 5) (N := some 14) (v := ?_) (a' := ?_) #[true, true, true, true, true, true, true, true, true, false, true, true, false, false] rfl rfl (by kernel_rfl) (fun _ _ _ h => h) (Or.inl ⟨by rfl, ?_⟩) hHeld ?_ ?_
      rotate_left
      · intro w' s0
        go_simp
        with_reducible rfl
      rotate_left
      · simp only [Act.put, List.setIfInBounds_toArray, List.set_cons_zero, List.set_cons_succ, i64_w, i32_w]
        rfl
      refine one_ (i := 9) (N := none) #[true, true, true, true, true, true, true, true, true, true, true, true, false, false] rfl rfl (by kernel_rfl) (by decide) (fun K hK => ?_)
      refine skip_ (w1 := ?_) (by rfl) rfl ?_ ?_
      rotate_left
      · go_simp
        rfl
      have hI1 := HI.out.drew.set (HI.out.drew.wv.sth (i := id) HA5.out.2 true)
      refine hK.out _ _ (hI1.e1) (fun hHeld => ?_)
      clear hK K
      refine pure_ (i := 12) (N := some 20) (v := ?_) (a' := ?_) #[true, true, true, true, true, true, true, true, true, true, true, true, true, false] rfl rfl (by kernel_rfl) (fun _ _ _ h => h) (Or.inl ⟨by rfl, ?_⟩) ?_ ?_
      rotate_left
      · intro w'
        go_simp
        with_reducible rfl
      rotate_left
      · simp only [Act.put, List.setIfInBounds_toArray, List.set_cons_zero, List.set_cons_succ, i64_w, i32_w]
        rfl
      refine last_ (i := 13) (N := none) #[true, true, true, true, true, true, true, true, true, true, true, true, true, true] rfl rfl (by kernel_rfl) (by decide) (fun K hK => ?_)
      refine skip_ (w1 := ?_) (by rfl) rfl ?_ ?_
      rotate_left
      · go_simp
        rfl
      refine hK.out _ _ ?_
      clear hK K
      refine done_ (by kernel_rfl) ?_
      obtain ⟨W2, hW2⟩ : ∃ W2, W2 = ((W.setCell ⟨gw, 3 + id, none⟩ (.bool true)).setCell ⟨gw, 68 + id, none⟩ (.bool true)).drew := ⟨_, rfl⟩
      rw [← hW2]
      have hI2 : EfI N gw b0 o0 c0 b1 o1 c1 ws cs cap w 2 id { x with th := upB x.th id true, sv := upB x.sv id true } W2 := by
        rw [hW2]
        have q1 := HI.out.set (HI.out.wv.sth (i := id) HA5.out.2 true)
        exact (q1.set (q1.wv.ssv (i := id) HA5.out.2 true)).drew
      clear hW2 hI1 g2 gz2 g1 gz
      have r1 := hI2.wv.kct
      have r2 := hI2.wv.k1
      have r3 := hI2.e1
      have r4 := HYC.out _ _ hI2.wv
      have rz := hI2.wv.frozen 202
      have HI2 := Lib.hid hI2
      clear hI2 hHeld
      go_wp2_with fail
      have hwi := HWI.out
      refine start_ (n := 18) (S := fun w' => w'.cell? ⟨gw, 202, none⟩ = some (.int .i64 x.ct) ∧ w'.cell? ⟨gw, 1, none⟩ = some (.slice (some ⟨b1, o1, none⟩) cs.length c1) ∧ w'.cell? ⟨w.heap.size, 1, none⟩ = some (.int .i64 (id : Int)) ∧ w'.cell? ⟨b1, o1 + (id - 1), none⟩ = some (.int .i64 Y)) (ds := [17]) #[false, false, false, false, false, false, false, false, false, false, false, false, false, false, false, false, false, false] (by kernel_rfl) rfl rfl ⟨r1, r2, r3, r4⟩ (fun hHeld => ?_)
      refine pure_ (i := 0) (N := some 21) (v := ?_) (a' := ?_) #[true, false, false, false, false, false, false, false, false, false, false, false, false, false, false, false, false, false] rfl rfl (by kernel_rfl) (fun _ _ _ h => h) (Or.inl ⟨by rfl, ?_⟩) ?_ ?_
      rotate_left
      · intro w'
        go_simp
        with_reducible rfl
      rotate_left
      · simp only [Act.put, List.setIfInBounds_toArray, List.set_cons_zero, List.set_cons_succ, i64_w, i32_w]
        rfl
      refine pure_ (i := 1) (N := some 22) (v := ?_) (a' := ?_) #[true, true, false, false, false, false, false, false, false, false, false, false, false, false, false, false, false, false] rfl rfl (by kernel_rfl) (fun _ _ _ h => h) (Or.inl ⟨by rfl, ?_⟩) ?_ ?_
      rotate_left
      · intro w'
        go_simp
        with_reducible rfl
      rotate_left
      · simp only [Act.put, List.setIfInBounds_toArray, List.set_cons_zero, List.set_cons_succ, i64_w, i32_w]
        rfl
      refine pure_ (i := 2) (N := some 23) (v := ?_) (a' := ?_) #[true, true, true, false, false, false, false, false, false, false, false, false, false, false, false, false, false, false] rfl rfl (by kernel_rfl) (fun _ _ _ h => h) (Or.inl ⟨by rfl, ?_⟩) ?_ ?_
      rotate_left
      · intro w'
        go_simp
        with_reducible rfl
      rotate_left
      · simp only [Act.put, List.setIfInBounds_toArray, List.set_cons_zero, List.set_cons_succ, i64_w, i32_w]
        rfl
      refine pure_ (i := 4) (N := some 25) (v := ?_) (a' := ?_) #[true, true, true, false, true, false, false, false, false, false, false, false, false, false, false, false, false, false] rfl rfl (by kernel_rfl) (fun _ _ _ h => h) (Or.inl ⟨by rfl, ?_⟩) ?_ ?_
      rotate_left
      · intro w'
        go_simp
        with_reducible rfl
      rotate_left
      · simp only [Act.put, List.setIfInBounds_toArray, List.set_cons_zero, List.set_cons_succ, i64_w, i32_w]
        rfl
      refine pure_ (i := 5) (N := some 26) (v := ?_) (a' := ?_) #[true, true, true, false, true, true, false, false, false, false, false, false, false, false, false, false, false, false] rfl rfl (by kernel_rfl) (fun _ _ _ h => h) (Or.inl ⟨by rfl, ?_⟩) ?_ ?_
      rotate_left
      · intro w'
        go_simp
        with_reducible rfl
      rotate_left
      · simp only [Act.put, List.setIfInBounds_toArray, List.set_cons_zero, List.set_cons_succ, i64_w, i32_w]
        rfl
      refine pure_ (i := 6) (N := some 27) (v := ?_) (a' := ?_) #[true, true, true, false, true, true, true, false, false, false, false, false, false, false, false, false, false, false] rfl rfl (by kernel_rfl) (fun _ _ _ h => h) (Or.inl ⟨by rfl, ?_⟩) ?_ ?_
      rotate_left
      · intro w'
        go_simp
        with_reducible rfl
      rotate_left
      · simp only [Act.put, List.setIfInBounds_toArray, List.set_cons_zero, List.set_cons_succ, i64_w, i32_w]
        rfl
      refine pure_ (i := 7) (N := some 28) (v := ?_) (a' := ?_) #[true, true, true, false, true, true, true, true, false, false, false, false, false, false, false, false, false, false] rfl rfl (by kernel_rfl) (fun _ _ _ h => h) (Or.inl ⟨by rfl, ?_⟩) ?_ ?_
      rotate_left
      · intro w'
        go_simp
        with_reducible rfl
      rotate_left
      · simp only [Act.put, List.setIfInBounds_toArray, List.set_cons_zero, List.set_cons_succ, i64_w, i32_w]
        rfl
      refine pure_ (i := 9) (N := some 30) (v := ?_) (a' := ?_) #[true, true, true, false, true, true, true, true, false, true, false, false, false, false, false, false, false, false] rfl rfl (by kernel_rfl) (fun _ _ _ h => h) (Or.inl ⟨by rfl, ?_⟩) ?_ ?_
      rotate_left
      · intro w'
        go_simp
        with_reducible rfl
      rotate_left
      · simp only [Act.put, List.setIfInBounds_toArray, List.set_cons_zero, List.set_cons_succ, i64_w, i32_w]
        rfl
      refine take_ (i := 3) (N := some 24) (v := ?_) (a' := ?_) #[true, true, true, true, true, true, true, true, false, true, false, false, false, false, false, false, false, false] rfl rfl (by kernel_rfl) (fun _ _ _ h => h) (Or.inl ⟨by rfl, ?_⟩) hHeld ?_ ?_
      rotate_left
      · rintro w' ⟨s0, s1, s2, s3⟩
        go_simp
        with_reducible rfl
      rotate_left
      · simp only [Act.put, List.setIfInBounds_toArray, List.set_cons_zero, List.set_cons_succ, i64_w, i32_w]
        rfl
      refine take_ (i := 8) (N := some 29) (v := ?_) (a' := ?_) #[true, true, true, true, true, true, true, true, true, true, false, false, false, false, false, false, false, false] rfl rfl (by kernel_rfl) (fun _ _ _ h => h) (Or.inl ⟨by rfl, ?_⟩) hHeld ?_ ?_
      rotate_left
      · rintro w' ⟨s0, s1, s2, s3⟩
        go_simp
        with_reducible rfl
      rotate_left
      · simp only [Act.put, List.setIfInBounds_toArray, List.set_cons_zero, List.set_cons_succ, i64_w, i32_w]
        rfl
      refine take_ (i := 10) (N := some 31) (v := ?_) (a' := ?_) #[true, true, true, true, true, true, true, true, true, true, true, false, false, false, false, false, false, false] rfl rfl (by kernel_rfl) (fun _ _ _ h => h) (Or.inl ⟨by rfl, ?_⟩) hHeld ?_ ?_
      rotate_left
      · rintro w' ⟨s0, s1, s2, s3⟩
        go_simp
        with_reducible rfl
      rotate_left
      · simp only [Act.put, List.setIfInBounds_toArray, List.set_cons_zero, List.set_cons_succ, i64_w, i32_w]
        rfl
      refine pure_ (i := 11) (N := some 32) (v := ?_) (a' := ?_) #[true, true, true, true, true, true, true, true, true, true, true, true, false, false, false, false, false, false] rfl rfl (by kernel_rfl) (fun _ _ _ h => h) (Or.inl ⟨by rfl, ?_⟩) ?_ ?_
      rotate_left
      · intro w'
        go_simp
        with_reducible rfl
      rotate_left
      · simp only [Act.put, List.setIfInBounds_toArray, List.set_cons_zero, List.set_cons_succ, i64_w, i32_w]
        rfl
      refine pure_ (i := 12) (N := some 33) (v := ?_) (a' := ?_) #[true, true, true, true, true, true, true, true, true, true, true, true, true, false, false, false, false, false] rfl rfl (by kernel_rfl) (fun _ _ _ h => h) (Or.inl ⟨by rfl, ?_⟩) ?_ ?_
      rotate_left
      · intro w'
        go_simp
        with_reducible rfl
      rotate_left
      · simp only [Act.put, List.setIfInBounds_toArray, List.set_cons_zero, List.set_cons_succ, i64_w, i32_w]
        rfl
      refine take_ (i := 13) (N := some 34) (v := ?_) (a' := ?_) #[true, true, true, true, true, true, true, true, true, true, true, true, true, true, false, false, false, false] rfl rfl (by kernel_rfl) (fun _ _ _ h => h) (Or.inl ⟨by rfl, ?_⟩) hHeld ?_ ?_
      rotate_left
      · rintro w' ⟨s0, s1, s2, s3⟩
        go_simp
        with_reducible rfl
      rotate_left
      · simp only [Act.put, List.setIfInBounds_toArray, List.set_cons_zero, List.set_cons_succ, i64_w, i32_w]
        rfl
      refine pure_ (i := 14) (N := some 35) (v := ?_) (a' := ?_) #[true, true, true, true, true, true, true, true, true, true, true, true, true, true, true, false, false, false] rfl rfl (by kernel_rfl) (fun _ _ _ h => h) (Or.inl ⟨by rfl, ?_⟩) ?_ ?_
      rotate_left
      · intro w'
        go_simp
        with_reducible rfl
      rotate_left
      · simp only [Act.put, List.setIfInBounds_toArray, List.set_cons_zero, List.set_cons_succ, i64_w, i32_w]
        rfl
      refine pure_ (i := 15) (N := some 36) (v := ?_) (a' := ?_) #[true, true, true, true, true, true, true, true, true, true, true, true, true, true, true, true, false, false] rfl rfl (by kernel_rfl) (fun _ _ _ h => h) (Or.inl ⟨by rfl, ?_⟩) ?_ ?_
      rotate_left
      · intro w'
        go_simp
        with_reducible rfl
      rotate_left
      · simp only [Act.put, List.setIfInBounds_toArray, List.set_cons_zero, List.set_cons_succ, i64_w, i32_w]
        rfl
      refine pure_ (i := 16) (N := some 37) (v := ?_) (a' := ?_) #[true, true, true, true, true, true, true, true, true, true, true, true, true, true, true, true, true, false] rfl rfl (by kernel_rfl) (fun _ _ _ h => h) (Or.inl ⟨by rfl, ?_⟩) ?_ ?_
      rotate_left
      · intro w'
        go_simp
        with_reducible rfl
      rotate_left
      · simp only [Act.put, List.setIfInBounds_toArray, List.set_cons_zero, List.set_cons_succ, i64_w, i32_w]
        rfl
      refine last_ (i := 17) (N := none) #[true, true, true, true, true, true, true, true, true, true, true, true, true, true, true, true, true, true] rfl rfl (by kernel_rfl) (by decide) (fun K hK => ?_)
      refine skip_ (w1 := ?_) (by rfl) rfl ?_ ?_
      rotate_left
      · go_simp
        rfl
      refine hK.out _ _ ?_
      clear hK K
      refine done_ (by kernel_rfl) ?_
      rw [HWC.out]
      clear hwi r1 r2 r3 r4 rz
      obtain ⟨W3, hW3⟩ : ∃ W3, W3 = (W2.setCell ⟨gw, 202, none⟩ (.int .i64 (x.ct + Y))).drew := ⟨_, rfl⟩
      rw [← hW3]
      have hI3 := (HI2.out.set (HI2.out.wv.sct (x.ct + Y))).drew
      rw [← hW3] at hI3
      have HI3 := Lib.hid hI3
      clear hW3 hI3
      go_wp2_with fail
      refine bodyPost_end (results_none rfl _ _ _) rfl ?_
      exact EfI.post HI3.out HX.out
  by_cases h3 : k = 3
  · have HX := Lib.hid (show effW x ws cs k id = { x with th := upB x.th id false, wd := x.wd - ws.getD id 0 } by unfold effW; rw [if_neg h1, if_pos h3])
    have hi1 : 1 ≤ id := hk.id0 (by omega) (by omega)
    have a6 : id < 65 := by omega
    have g1 := hI.wv.kth (i := id) (by omega)
    have gz := hI.wv.frozen (3 + id)
    have HA6 := Lib.hid a6
    subst h3
    clear h hk hW hin ht hI x0 a6 hlen hhi h1 HX0
    generalize ws.getD id 0 = X at *
    go_enter Try.func42, Try.ntmps42
    go_wp2_with fail
    rw [← HW.out]
    refine start_ (n := 7) (S := fun w' => w'.cell? ⟨w.heap.size, 1, none⟩ = some (.int .i64 (id : Int))) (ds := [6]) #[false, false, false, false, false, false, false] (by kernel_rfl) rfl rfl (e1) (fun hHeld => ?_)
    refine pure_ (i := 0) (N := some 40) (v := ?_) (a' := ?_) #[true, false, false, false, false, false, false] rfl rfl (by kernel_rfl) (fun _ _ _ h => h) (Or.inl ⟨by rfl, ?_⟩) ?_ ?_
    rotate_left
    · intro w'
      go_simp
      with_reducible rfl
    rotate_left
    · simp only [Act.put, List.setIfInBounds_toArray, List.set_cons_zero, List.set_cons_succ, i64_w, i32_w]
      rfl
    refine pure_ (i := 1) (N := some 41) (v := ?_) (a' := ?_) #[true, true, false, false, false, false, false] rfl rfl (by kernel_rfl) (fun _ _ _ h => h) (Or.inl ⟨by rfl, ?_⟩) ?_ ?_
    rotate_left
    · intro w'
      go_simp
      with_reducible rfl
    rotate_left
    · simp only [Act.put, List.setIfInBounds_toArray, List.set_cons_zero, List.set_cons_succ, i64_w, i32_w]
      rfl
    refine pure_ (i := 3) (N := some 43) (v := ?_) (a' := ?_) #[true, true, false, true, false, false, false] rfl rfl (by kernel_rfl) (fun _ _ _ h => h) (Or.inl ⟨by rfl, ?_⟩) ?_ ?_
    rotate_left
    · intro w'
      go_simp
      with_reducible rfl
    rotate_left
    · simp only [Act.put, List.setIfInBounds_toArray, List.set_cons_zero, List.set_cons_succ, i64_w, i32_w]
      rfl
    refine pure_ (i := 4) (N := some 44) (v := ?_) (a' := ?_) #[true, true, false, true, true, false, false] rfl rfl (by kernel_rfl) (fun _ _ _ h => h) (Or.inl ⟨by rfl, ?_⟩) ?_ ?_
    rotate_left
    · intro w'
      go_simp
      with_reducible rfl
    rotate_left
    · simp only [Act.put, List.setIfInBounds_toArray, List.set_cons_zero, List.set_cons_succ, i64_w, i32_w]
      rfl
    refine take_ (i := 2) (N := some 42) (v := ?_) (a' := ?_) #[true, true, true, true, true, false, false] rfl rfl (by kernel_rfl) (fun _ _ _ h => h) (Or.inl ⟨by rfl, ?_⟩) hHeld ?_ ?_
    rotate_left
    · intro w' s0
      go_simp
      with_reducible rfl
    rotate_left
    · simp only [Act.put, List.setIfInBounds_toArray, List.set_cons_zero, List.set_cons_succ, i64_w, i32_w]
      rfl
    refine pure_ (i := 5) (N := some 45) (v := ?_) (a' := ?_) #[true, true, true, true, true, true, false] rfl rfl (by kernel_rfl) (fun _ _ _ h => h) (Or.inl ⟨by rfl, ?_⟩) ?_ ?_
    rotate_left
    · intro w'
      go_simp
      with_reducible rfl
    rotate_left
    · simp only [Act.put, List.setIfInBounds_toArray, List.set_cons_zero, List.set_cons_succ, i64_w, i32_w]
      rfl
    refine last_ (i := 6) (N := none) #[true, true, true, true, true, true, true] rfl rfl (by kernel_rfl) (by decide) (fun K hK => ?_)
    refine skip_ (w1 := ?_) (by rfl) rfl ?_ ?_
    rotate_left
    · go_simp
      rfl
    refine hK.out _ _ ?_
    clear hK K
    refine done_ (by kernel_rfl) ?_
    obtain ⟨W2, hW2⟩ : ∃ W2, W2 = (W.setCell ⟨gw, 3 + id, none⟩ (.bool false)).drew := ⟨_, rfl⟩
    rw [← hW2]
    have hI2 := (HI.out.set (HI.out.wv.sth (i := id) HA6.out false)).drew
    rw [← hW2] at hI2
    clear hW2 g1 gz hHeld
    have r1 := hI2.wv.kwd
    have r2 := hI2.wv.k0
    have r3 := hI2.e1
    have r4 := HYX.out _ _ hI2.wv
    have rz := hI2.wv.frozen 201
    have HI2 := Lib.hid hI2
    clear hI2
    go_wp2_with fail
    refine start_ (n := 17) (S := fun w' => w'.cell? ⟨gw, 201, none⟩ = some (.int .i64 x.wd) ∧ w'.cell? ⟨gw, 0, none⟩ = some (.slice (some ⟨b0, o0, none⟩) ws.length c0) ∧ w'.cell? ⟨w.heap.size, 1, none⟩ = some (.int .i64 (id : Int)) ∧ w'.cell? ⟨b0, o0 + id, none⟩ = some (.int .i64 X)) (ds := [16]) #[false, false, false, false, false, false, false, false, false, false, false, false, false, false, false, false, false] (by kernel_rfl) rfl rfl ⟨r1, r2, r3, r4⟩ (fun hHeld => ?_)
    refine pure_ (i := 0) (N := some 46) (v := ?_) (a' := ?_) #[true, false, false, false, false, false, false, false, false, false, false, false, false, false, false, false, false] rfl rfl (by kernel_rfl) (fun _ _ _ h => h) (Or.inl ⟨by rfl, ?_⟩) ?_ ?_
    rotate_left
    · intro w'
      go_simp
      with_reducible rfl
    rotate_left
    · simp only [Act.put, List.setIfInBounds_toArray, List.set_cons_zero, List.set_cons_succ, i64_w, i32_w]
      rfl
    refine pure_ (i := 1) (N := some 47) (v := ?_) (a' := ?_) #[true, true, false, false, false, false, false, false, false, false, false, false, false, false, false, false, false] rfl rfl (by kernel_rfl) (fun _ _ _ h => h) (Or.inl ⟨by rfl, ?_⟩) ?_ ?_
    rotate_left
    · intro w'
      go_simp
      with_reducible rfl
    rotate_left
    · simp only [Act.put, List.setIfInBounds_toArray, List.set_cons_zero, List.set_cons_succ, i64_w, i32_w]
      rfl
    refine pure_ (i := 2) (N := some 48) (v := ?_) (a' := ?_) #[true, true, true, false, false, false, false, false, false, false, false, false, false, false, false, false, false] rfl rfl (by kernel_rfl) (fun _ _ _ h => h) (Or.inl ⟨by rfl, ?_⟩) ?_ ?_
    rotate_left
    · intro w'
      go_simp
      with_reducible rfl
    rotate_left
    · simp only [Act.put, List.setIfInBounds_toArray, List.set_cons_zero, List.set_cons_succ, i64_w, i32_w]
      rfl
    refine pure_ (i := 4) (N := some 50) (v := ?_) (a' := ?_) #[true, true, true, false, true, false, false, false, false, false, false, false, false, false, false, false, false] rfl rfl (by kernel_rfl) (fun _ _ _ h => h) (Or.inl ⟨by rfl, ?_⟩) ?_ ?_
    rotate_left
    · intro w'
      go_simp
      with_reducible rfl
    rotate_left
    · simp only [Act.put, List.setIfInBounds_toArray, List.set_cons_zero, List.set_cons_succ, i64_w, i32_w]
      rfl
    refine pure_ (i := 5) (N := some 51) (v := ?_) (a' := ?_) #[true, true, true, false, true, true, false, false, false, false, false, false, false, false, false, false, false] rfl rfl (by kernel_rfl) (fun _ _ _ h => h) (Or.inl ⟨by rfl, ?_⟩) ?_ ?_
    rotate_left
    · intro w'
      go_simp
      with_reducible rfl
    rotate_left
    · simp only [Act.put, List.setIfInBounds_toArray, List.set_cons_zero, List.set_cons_succ, i64_w, i32_w]
      rfl
    refine pure_ (i := 6) (N := some 52) (v := ?_) (a' := ?_) #[true, true, true, false, true, true, true, false, false, false, false, false, false, false, false, false, false] rfl rfl (by kernel_rfl) (fun _ _ _ h => h) (Or.inl ⟨by rfl, ?_⟩) ?_ ?_
    rotate_left
    · intro w'
      go_simp
      with_reducible rfl
    rotate_left
    · simp only [Act.put, List.setIfInBounds_toArray, List.set_cons_zero, List.set_cons_succ, i64_w, i32_w]
      rfl
    refine pure_ (i := 7) (N := some 53) (v := ?_) (a' := ?_) #[true, true, true, false, true, true, true, true, false, false, false, false, false, false, false, false, false] rfl rfl (by kernel_rfl) (fun _ _ _ h => h) (Or.inl ⟨by rfl, ?_⟩) ?_ ?_
    rotate_left
    · intro w'
      go_simp
      with_reducible rfl
    rotate_left
    · simp only [Act.put, List.setIfInBounds_toArray, List.set_cons_zero, List.set_cons_succ, i64_w, i32_w]
      rfl
    refine pure_ (i := 9) (N := some 55) (v := ?_) (a' := ?_) #[true, true, true, false, true, true, true, true, false, true, false, false, false, false, false, false, false] rfl rfl (by kernel_rfl) (fun _ _ _ h => h) (Or.inl ⟨by rfl, ?_⟩) ?_ ?_
    rotate_left
    · intro w'
      go_simp
      with_reducible rfl
    rotate_left
    · simp only [Act.put, List.setIfInBounds_toArray, List.set_cons_zero, List.set_cons_succ, i64_w, i32_w]
      rfl
    refine take_ (i := 3) (N := some 49) (v := ?_) (a' := ?_) #[true, true, true, true, true, true, true, true, false, true, false, false, false, false, false, false, false] rfl rfl (by kernel_rfl) (fun _ _ _ h => h) (Or.inl ⟨by rfl, ?_⟩) hHeld ?_ ?_
    rotate_left
    · rintro w' ⟨s0, s1, s2, s3⟩
      go_simp
      with_reducible rfl
    rotate_left
    · simp only [Act.put, List.setIfInBounds_toArray, List.set_cons_zero, List.set_cons_succ, i64_w, i32_w]
      rfl
    refine take_ (i := 8) (N := some 54) (v := ?_) (a' := ?_) #[true, true, true, true, true, true, true, true, true, true, false, false, false, false, false, false, false] rfl rfl (by kernel_rfl) (fun _ _ _ h => h) (Or.inl ⟨by rfl, ?_⟩) hHeld ?_ ?_
    rotate_left
    · rintro w' ⟨s0, s1, s2, s3⟩
      go_simp
      with_reducible rfl
    rotate_left
    · simp only [Act.put, List.setIfInBounds_toArray, List.set_cons_zero, List.set_cons_succ, i64_w, i32_w]
      rfl
    refine take_ (i := 10) (N := some 56) (v := ?_) (a' := ?_) #[true, true, true, true, true, true, true, true, true, true, true, false, false, false, false, false, false] rfl rfl (by kernel_rfl) (fun _ _ _ h => h) (Or.inl ⟨by rfl, ?_⟩) hHeld ?_ ?_
    rotate_left
    · rintro w' ⟨s0, s1, s2, s3⟩
      go_simp
      with_reducible rfl
    rotate_left
    · simp only [Act.put, List.setIfInBounds_toArray, List.set_cons_zero, List.set_cons_succ, i64_w, i32_w]
      rfl
    refine pure_ (i := 11) (N := some 57) (v := ?_) (a' := ?_) #[true, true, true, true, true, true, true, true, true, true, true, true, false, false, false, false, false] rfl rfl (by kernel_rfl) (fun _ _ _ h => h) (Or.inl ⟨by rfl, ?_⟩) ?_ ?_
    rotate_left
    · intro w'
      go_simp
      with_reducible rfl
    rotate_left
    · simp only [Act.put, List.setIfInBounds_toArray, List.set_cons_zero, List.set_cons_succ, i64_w, i32_w]
      rfl
    refine take_ (i := 12) (N := some 58) (v := ?_) (a' := ?_) #[true, true, true, true, true, true, true, true, true, true, true, true, true, false, false, false, false] rfl rfl (by kernel_rfl) (fun _ _ _ h => h) (Or.inl ⟨by rfl, ?_⟩) hHeld ?_ ?_
    rotate_left
    · rintro w' ⟨s0, s1, s2, s3⟩
      go_simp
      with_reducible rfl
    rotate_left
    · simp only [Act.put, List.setIfInBounds_toArray, List.set_cons_zero, List.set_cons_succ, i64_w, i32_w]
      rfl
    refine pure_ (i := 13) (N := some 59) (v := ?_) (a' := ?_) #[true, true, true, true, true, true, true, true, true, true, true, true, true, true, false, false, false] rfl rfl (by kernel_rfl) (fun _ _ _ h => h) (Or.inl ⟨by rfl, ?_⟩) ?_ ?_
    rotate_left
    · intro w'
      go_simp
      with_reducible rfl
    rotate_left
    · simp only [Act.put, List.setIfInBounds_toArray, List.set_cons_zero, List.set_cons_succ, i64_w, i32_w]
      rfl
    refine pure_ (i := 14) (N := some 60) (v := ?_) (a' := ?_) #[true, true, true, true, true, true, true, true, true, true, true, true, true, true, true, false, false] rfl rfl (by kernel_rfl) (fun _ _ _ h => h) (Or.inl ⟨by rfl, ?_⟩) ?_ ?_
    rotate_left
    · intro w'
      go_simp
      with_reducible rfl
    rotate_left
    · simp only [Act.put, List.setIfInBounds_toArray, List.set_cons_zero, List.set_cons_succ, i64_w, i32_w]
      rfl
    refine pure_ (i := 15) (N := some 61) (v := ?_) (a' := ?_) #[true, true, true, true, true, true, true, true, true, true, true, true, true, true, true, true, false] rfl rfl (by kernel_rfl) (fun _ _ _ h => h) (Or.inl ⟨by rfl, ?_⟩) ?_ ?_
    rotate_left
    · intro w'
      go_simp
      with_reducible rfl
    rotate_left
    · simp only [Act.put, List.setIfInBounds_toArray, List.set_cons_zero, List.set_cons_succ, i64_w, i32_w]
      rfl
    refine last_ (i := 16) (N := none) #[true, true, true, true, true, true, true, true, true, true, true, true, true, true, true, true, true] rfl rfl (by kernel_rfl) (by decide) (fun K hK => ?_)
    refine skip_ (w1 := ?_) (by rfl) rfl ?_ ?_
    rotate_left
    · go_simp
      rfl
    refine hK.out _ _ ?_
    clear hK K
    refine done_ (by kernel_rfl) ?_
    rw [HWR.out]
    clear r1 r2 r3 r4 rz
    obtain ⟨W3, hW3⟩ : ∃ W3, W3 = (W2.setCell ⟨gw, 201, none⟩ (.int .i64 (x.wd - X))).drew := ⟨_, rfl⟩
    rw [← hW3]
    have hI3 := (HI2.out.set (HI2.out.wv.swd (x.wd - X))).drew
    rw [← hW3] at hI3
    clear hW3
    have HE := Lib.hid hI3
    clear hI3
    go_wp2_with fail
    refine bodyPost_end (results_none rfl _ _ _) rfl ?_
    exact EfI.post HE.out HX.out
  by_cases h4 : k = 4
  · have HX := Lib.hid (show effW x ws cs k id = { x with em := true } by unfold effW; rw [if_neg h1, if_neg h3, if_pos h4])
    have g1 := hI.wv.kem
    have gz := hI.wv.frozen 198
    subst h4
    clear h hk hW hin ht hI x0 hlen hhi h1 HX0
    have hw := HW.out
    clear HW
    subst hw
    go_enter Try.func42, Try.ntmps42
    go_wp2_with fail
    refine bodyPost_end (results_none rfl _ _ _) rfl ?_
    exact EfI.post (HI.out.set (HI.out.wv.sem true)) HX.out
  by_cases h5 : k = 5
  · have HX := Lib.hid (show effW x ws cs k id = { x with sd := true, gr := upB x.gr cs.length true } by unfold effW; rw [if_neg h1, if_neg h3, if_neg h4, if_pos h5])
    have g0 := hI.wv.k1
    have g1 := hI.wv.ksd
    have gz := hI.wv.frozen 199
    have g2 := hI.wv.kgr (i := cs.length) (by omega)
    have gz2 := hI.wv.frozen (133 + cs.length)
    have n1 : (cs.length : Int) < 65 := by omega
    have n2 : (0 : Int) ≤ (cs.length : Int) := by omega
    have n3 := Lib.hid (show cs.length < 65 by omega)
    subst h5
    clear h hk hW hin ht hI x0 hlen hhi h1 HX0
    go_enter Try.func42, Try.ntmps42
    go_wp2_with fail
    rw [← HW.out]
    refine start_ (n := 15) (S := fun w' => w'.cell? ⟨gw, 1, none⟩ = some (.slice (some ⟨b1, o1, none⟩) cs.length c1)) (ds := [10, 14]) #[false, false, false, false, false, false, false, false, false, false, false, false, false, false, false] (by kernel_rfl) rfl rfl (g0) (fun hHeld => ?_)
    refine pure_ (i := 0) (N := some 69) (v := ?_) (a' := ?_) #[true, false, false, false, false, false, false, false, false, false, false, false, false, false, false] rfl rfl (by kernel_rfl) (fun _ _ _ h => h) (Or.inl ⟨by rfl, ?_⟩) ?_ ?_
    rotate_left
    · intro w'
      go_simp
      with_reducible rfl
    rotate_left
    · simp only [Act.put, List.setIfInBounds_toArray, List.set_cons_zero, List.set_cons_succ, i64_w, i32_w]
      rfl
    refine pure_ (i := 1) (N := some 70) (v := ?_) (a' := ?_) #[true, true, false, false, false, false, false, false, false, false, false, false, false, false, false] rfl rfl (by kernel_rfl) (fun _ _ _ h => h) (Or.inl ⟨by rfl, ?_⟩) ?_ ?_
    rotate_left
    · intro w'
      go_simp
      with_reducible rfl
    rotate_left
    · simp only [Act.put, List.setIfInBounds_toArray, List.set_cons_zero, List.set_cons_succ, i64_w, i32_w]
      rfl
    refine pure_ (i := 2) (N := some 71) (v := ?_) (a' := ?_) #[true, true, true, false, false, false, false, false, false, false, false, false, false, false, false] rfl rfl (by kernel_rfl) (fun _ _ _ h => h) (Or.inl ⟨by rfl, ?_⟩) ?_ ?_
    rotate_left
    · intro w'
      go_simp
      with_reducible rfl
    rotate_left
    · simp only [Act.put, List.setIfInBounds_toArray, List.set_cons_zero, List.set_cons_succ, i64_w, i32_w]
      rfl
    refine pure_ (i := 3) (N := some 72) (v := ?_) (a' := ?_) #[true, true, true, true, false, false, false, false, false, false, false, false, false, false, false] rfl rfl (by kernel_rfl) (fun _ _ _ h => h) (Or.inl ⟨by rfl, ?_⟩) ?_ ?_
    rotate_left
    · intro w'
      go_simp
      with_reducible rfl
    rotate_left
    · simp only [Act.put, List.setIfInBounds_toArray, List.set_cons_zero, List.set_cons_succ, i64_w, i32_w]
      rfl
    refine pure_ (i := 4) (N := some 73) (v := ?_) (a' := ?_) #[true, true, true, true, true, false, false, false, false, false, false, false, false, false, false] rfl rfl (by kernel_rfl) (fun _ _ _ h => h) (Or.inl ⟨by rfl, ?_⟩) ?_ ?_
    rotate_left
    · intro w'
      go_simp
      with_reducible rfl
    rotate_left
    · simp only [Act.put, List.setIfInBounds_toArray, List.set_cons_zero, List.set_cons_succ, i64_w, i32_w]
      rfl
    refine pure_ (i := 5) (N := some 74) (v := ?_) (a' := ?_) #[true, true, true, true, true, true, false, false, false, false, false, false, false, false, false] rfl rfl (by kernel_rfl) (fun _ _ _ h => h) (Or.inl ⟨by rfl, ?_⟩) ?_ ?_
    rotate_left
    · intro w'
      go_simp
      with_reducible rfl
    rotate_left
    · simp only [Act.put, List.setIfInBounds_toArray, List.set_cons_zero, List.set_cons_succ, i64_w, i32_w]
      rfl
    refine pure_ (i := 11) (N := some 79) (v := ?_) (a' := ?_) #[true, true, true, true, true, true, false, false, false, false, false, true, false, false, false] rfl rfl (by kernel_rfl) (fun _ _ _ h => h) (Or.inl ⟨by rfl, ?_⟩) ?_ ?_
    rotate_left
    · intro w'
      go_simp
      with_reducible rfl
    rotate_left
    · simp only [Act.put, List.setIfInBounds_toArray, List.set_cons_zero, List.set_cons_succ, i64_w, i32_w]
      rfl
    refine pure_ (i := 12) (N := some 80) (v := ?_) (a' := ?_) #[true, true, true, true, true, true, false, false, false, false, false, true, true, false, false] rfl rfl (by kernel_rfl) (fun _ _ _ h => h) (Or.inl ⟨by rfl, ?_⟩) ?_ ?_
    rotate_left
    · intro w'
      go_simp
      with_reducible rfl
    rotate_left
    · simp only [Act.put, List.setIfInBounds_toArray, List.set_cons_zero, List.set_cons_succ, i64_w, i32_w]
      rfl
    refine take_ (i := 6) (N := some 75) (v := ?_) (a' := ?_) #[true, true, true, true, true, true, true, false, false, false, false, true, true, false, false] rfl rfl (by kernel_rfl) (fun _ _ _ h => h) (Or.inl ⟨by rfl, ?_⟩) hHeld ?_ ?_
    rotate_left
    · intro w' s0
      go_simp
      with_reducible rfl
    rotate_left
    · simp only [Act.put, List.setIfInBounds_toArray, List.set_cons_zero, List.set_cons_succ, i64_w, i32_w]
      rfl
    refine pure_ (i := 7) (N := some 76) (v := ?_) (a' := ?_) #[true, true, true, true, true, true, true, true, false, false, false, true, true, false, false] rfl rfl (by kernel_rfl) (fun _ _ _ h => h) (Or.inl ⟨by rfl, ?_⟩) ?_ ?_
    rotate_left
    · intro w'
      go_simp
      with_reducible rfl
    rotate_left
    · simp only [Act.put, List.setIfInBounds_toArray, List.set_cons_zero, List.set_cons_succ, i64_w, i32_w]
      rfl
    refine pure_ (i := 8) (N := some 77) (v := ?_) (a' := ?_) #[true, true, true, true, true, true, true, true, true, false, false, true, true, false, false] rfl rfl (by kernel_rfl) (fun _ _ _ h => h) (Or.inl ⟨by rfl, ?_⟩) ?_ ?_
    rotate_left
    · intro w'
      go_simp
      with_reducible rfl
    rotate_left
    · simp only [Act.put, List.setIfInBounds_toArray, List.set_cons_zero, List.set_cons_succ, i64_w, i32_w]
      rfl
    refine pure_ (i := 9) (N := some 78) (v := ?_) (a' := ?_) #[true, true, true, true, true, true, true, true, true, true, false, true, true, false, false] rfl rfl (by kernel_rfl) (fun _ _ _ h => h) (Or.inl ⟨by rfl, ?_⟩) ?_ ?_
    rotate_left
    · intro w'
      go_simp
      with_reducible rfl
    rotate_left
    · simp only [Act.put, List.setIfInBounds_toArray, List.set_cons_zero, List.set_cons_succ, i64_w, i32_w]
      rfl
    refine last_ (i := 10) (N := none) #[true, true, true, true, true, true, true, true, true, true, true, true, true, false, false] rfl rfl (by kernel_rfl) (by decide) (fun K hK => ?_)
    refine skip_ (w1 := ?_) (by rfl) rfl ?_ ?_
    rotate_left
    · go_simp
      rfl
    refine hK.out _ _ ?_
    clear hK K
    refine pure_ (i := 13) (N := some 81) (v := ?_) (a' := ?_) #[true, true, true, true, true, true, true, true, true, true, true, true, true, true, false] rfl rfl (by kernel_rfl) (fun _ _ _ h => h) (Or.inl ⟨by rfl, ?_⟩) ?_ ?_
    rotate_left
    · intro w'
      go_simp
      with_reducible rfl
    rotate_left
    · simp only [Act.put, List.setIfInBounds_toArray, List.set_cons_zero, List.set_cons_succ, i64_w, i32_w]
      rfl
    refine last_ (i := 14) (N := none) #[true, true, true, true, true, true, true, true, true, true, true, true, true, true, true] rfl rfl (by kernel_rfl) (by decide) (fun K hK => ?_)
    refine skip_ (w1 := ?_) (by rfl) rfl ?_ ?_
    rotate_left
    · go_simp
      rfl
    refine hK.out _ _ ?_
    clear hK K
    refine done_ (by kernel_rfl) ?_
    obtain ⟨W2, hW2⟩ : ∃ W2, W2 = ((W.setCell ⟨gw, 199, none⟩ (.bool true)).setCell ⟨gw, 133 + cs.length, none⟩ (.bool true)).drew := ⟨_, rfl⟩
    rw [← hW2]
    have q1 := HI.out.set (HI.out.wv.ssd true)
    have hI2 := (q1.set (q1.wv.sgr (i := cs.length) n3.out true)).drew
    rw [← hW2] at hI2
    have HE := Lib.hid hI2
    clear hW2 g0 g1 gz g2 gz2 q1 hI2 hHeld
    go_wp2_with fail
    refine bodyPost_end (results_none rfl _ _ _) rfl ?_
    exact EfI.post HE.out HX.out
  have h6 : k = 6 := by have := hk.kd; omega
  subst h6
  have HX := Lib.hid (show effW x ws cs 6 id = { x with gr := upB (upB x.gr (id - 1) (decide (1 < id))) id false, wd := x.wd - ws.getD id 0, dn := x.dn + 1 } by unfold effW; rw [if_neg h1, if_neg h3, if_neg h4, if_neg h5])
  have hi1 : 1 ≤ id := hk.id0 (by omega) (by omega)
  have a1 : ((id : Int) - 1).toNat = id - 1 := by omega
  have a2 : (0 : Int) ≤ (id : Int) - 1 := by omega
  have a3 : (id : Int) - 1 < 65 := by omega
  have a4 : (1 : Int) ≤ (id : Int) := by omega
  have a7 : ¬ id - 1 = id := by omega
  have a8 : ¬ id = id - 1 := by omega
  have HA := Lib.hid (show id < 65 ∧ id - 1 < 65 by omega)
  have g1 := hI.wv.kgr (i := id - 1) (by omega)
  have gz := hI.wv.frozen (133 + (id - 1))
  have g2 := hI.wv.kgr (i := id) (by omega)
  have gz2 := hI.wv.frozen (133 + id)
  have hwi : wrap64 ((id : Int) - 1) = (id : Int) - 1 := wr64 (by omega) (by omega)
  have HWI := Lib.hid hwi
  clear hwi h hk hW hin ht hI x0 hlen hhi h1 h3 h4 h5 HX0
  generalize ws.getD id 0 = X at *
  by_cases hi : 1 < id
  · have hj : (1 : Int) < (id : Int) := by omega
    have hdc : decide (1 < id) = true := by simp; omega
    rw [hdc] at HX
    clear hi hdc
    have hdb : decide ((1 : Int) < (id : Int)) = true := by simp; omega
    go_enter Try.func42, Try.ntmps42
    go_wp2_with fail
    rw [← HW.out]
    have hwi := HWI.out
    refine start_ (n := 18) (S := fun w' => w'.cell? ⟨w.heap.size, 1, none⟩ = some (.int .i64 (id : Int))) (ds := [17]) #[false, false, false, false, false, false, false, false, false, false, false, false, false, false, false, false, false, false] (by kernel_rfl) rfl rfl (e1) (fun hHeld => ?_)
    refine pure_ (i := 0) (N := some 84) (v := ?_) (a' := ?_) #[true, false, false, false, false, false, false, false, false, false, false, false, false, false, false, false, false, false] rfl rfl (by kernel_rfl) (fun _ _ _ h => h) (Or.inl ⟨by rfl, ?_⟩) ?_ ?_
    rotate_left
    · intro w'
      go_simp
      with_reducible rfl
    rotate_left
    · simp only [Act.put, List.setIfInBounds_toArray, List.set_cons_zero, List.set_cons_succ, i64_w, i32_w]
      rfl
    refine pure_ (i := 1) (N := some 85) (v := ?_) (a' := ?_) #[true, true, false, false, false, false, false, false, false, false, false, false, false, false, false, false, false, false] rfl rfl (by kernel_rfl) (fun _ _ _ h => h) (Or.inl ⟨by rfl, ?_⟩) ?_ ?_
    rotate_left
    · intro w'
      go_simp
      with_reducible rfl
    rotate_left
    · simp only [Act.put, List.setIfInBounds_toArray, List.set_cons_zero, List.set_cons_succ, i64_w, i32_w]
      rfl
    refine pure_ (i := 4) (N := some 88) (v := ?_) (a' := ?_) #[true, true, false, false, true, false, false, false, false, false, false, false, false, false, false, false, false, false] rfl rfl (by kernel_rfl) (fun _ _ _ h => h) (Or.inl ⟨by rfl, ?_⟩) ?_ ?_
    rotate_left
    · intro w'
      go_simp
      with_reducible rfl
    rotate_left
    · simp only [Act.put, List.setIfInBounds_toArray, List.set_cons_zero, List.set_cons_succ, i64_w, i32_w]
      rfl
    refine pure_ (i := 5) (N := some 89) (v := ?_) (a' := ?_) #[true, true, false, false, true, true, false, false, false, false, false, false, false, false, false, false, false, false] rfl rfl (by kernel_rfl) (fun _ _ _ h => h) (Or.inl ⟨by rfl, ?_⟩) ?_ ?_
    rotate_left
    · intro w'
      go_simp
      with_reducible rfl
    rotate_left
    · simp only [Act.put, List.setIfInBounds_toArray, List.set_cons_zero, List.set_cons_succ, i64_w, i32_w]
      rfl
    refine pure_ (i := 7) (N := some 91) (v := ?_) (a' := ?_) #[true, true, false, false, true, true, false, true, false, false, false, false, false, false, false, false, false, false] rfl rfl (by kernel_rfl) (fun _ _ _ h => h) (Or.inl ⟨by rfl, ?_⟩) ?_ ?_
    rotate_left
    · intro w'
      go_simp
      with_reducible rfl
    rotate_left
    · simp only [Act.put, List.setIfInBounds_toArray, List.set_cons_zero, List.set_cons_succ, i64_w, i32_w]
      rfl
    refine pure_ (i := 10) (N := some 94) (v := ?_) (a' := ?_) #[true, true, false, false, true, true, false, true, false, false, true, false, false, false, false, false, false, false] rfl rfl (by kernel_rfl) (fun _ _ _ h => h) (Or.inl ⟨by rfl, ?_⟩) ?_ ?_
    rotate_left
    · intro w'
      go_simp
      with_reducible rfl
    rotate_left
    · simp only [Act.put, List.setIfInBounds_toArray, List.set_cons_zero, List.set_cons_succ, i64_w, i32_w]
      rfl
    refine pure_ (i := 11) (N := some 95) (v := ?_) (a' := ?_) #[true, true, false, false, true, true, false, true, false, false, true, true, false, false, false, false, false, false] rfl rfl (by kernel_rfl) (fun _ _ _ h => h) (Or.inl ⟨by rfl, ?_⟩) ?_ ?_
    rotate_left
    · intro w'
      go_simp
      with_reducible rfl
    rotate_left
    · simp only [Act.put, List.setIfInBounds_toArray, List.set_cons_zero, List.set_cons_succ, i64_w, i32_w]
      rfl
    refine pure_ (i := 14) (N := some 97) (v := ?_) (a' := ?_) #[true, true, false, false, true, true, false, true, false, false, true, true, false, false, true, false, false, false] rfl rfl (by kernel_rfl) (fun _ _ _ h => h) (Or.inl ⟨by rfl, ?_⟩) ?_ ?_
    rotate_left
    · intro w'
      go_simp
      with_reducible rfl
    rotate_left
    · simp only [Act.put, List.setIfInBounds_toArray, List.set_cons_zero, List.set_cons_succ, i64_w, i32_w]
      rfl
    refine pure_ (i := 15) (N := some 98) (v := ?_) (a' := ?_) #[true, true, false, false, true, true, false, true, false, false, true, true, false, false, true, true, false, false] rfl rfl (by kernel_rfl) (fun _ _ _ h => h) (Or.inl ⟨by rfl, ?_⟩) ?_ ?_
    rotate_left
    · intro w'
      go_simp
      with_reducible rfl
    rotate_left
    · simp only [Act.put, List.setIfInBounds_toArray, List.set_cons_zero, List.set_cons_succ, i64_w, i32_w]
      rfl
    refine take_ (i := 2) (N := some 86) (v := ?_) (a' := ?_) #[true, true, true, false, true, true, false, true, false, false, true, true, false, false, true, true, false, false] rfl rfl (by kernel_rfl) (fun _ _ _ h => h) (Or.inl ⟨by rfl, ?_⟩) hHeld ?_ ?_
    rotate_left
    · intro w' s0
      go_simp
      with_reducible rfl
    rotate_left
    · simp only [Act.put, List.setIfInBounds_toArray, List.set_cons_zero, List.set_cons_succ, i64_w, i32_w]
      rfl
    refine pure_ (i := 3) (N := some 87) (v := ?_) (a' := ?_) #[true, true, true, true, true, true, false, true, false, false, true, true, false, false, true, true, false, false] rfl rfl (by kernel_rfl) (fun _ _ _ h => h) (Or.inl ⟨by rfl, ?_⟩) ?_ ?_
    rotate_left
    · intro w'
      go_simp
      with_reducible rfl
    rotate_left
    · simp only [Act.put, List.setIfInBounds_toArray, List.set_cons_zero, List.set_cons_succ, i64_w, i32_w]
      rfl
    refine take_ (i := 6) (N := some 90) (v := ?_) (a' := ?_) #[true, true, true, true, true, true, true, true, false, false, true, true, false, false, true, true, false, false] rfl rfl (by kernel_rfl) (fun _ _ _ h => h) (Or.inl ⟨by rfl, ?_⟩) hHeld ?_ ?_
    rotate_left
    · intro w' s0
      go_simp
      with_reducible rfl
    rotate_left
    · simp only [Act.put, List.setIfInBounds_toArray, List.set_cons_zero, List.set_cons_succ, i64_w, i32_w]
      rfl
    refine take_ (i := 8) (N := some 92) (v := ?_) (a' := ?_) #[true, true, true, true, true, true, true, true, true, false, true, true, false, false, true, true, false, false] rfl rfl (by kernel_rfl) (fun _ _ _ h => h) (Or.inl ⟨by rfl, ?_⟩) hHeld ?_ ?_
    rotate_left
    · intro w' s0
      go_simp
      with_reducible rfl
    rotate_left
    · simp only [Act.put, List.setIfInBounds_toArray, List.set_cons_zero, List.set_cons_succ, i64_w, i32_w]
      rfl
    refine pure_ (i := 9) (N := some 93) (v := ?_) (a' := ?_) #[true, true, true, true, true, true, true, true, true, true, true, true, false, false, true, true, false, false] rfl rfl (by kernel_rfl) (fun _ _ _ h => h) (Or.inl ⟨by rfl, ?_⟩) ?_ ?_
    rotate_left
    · intro w'
      go_simp
      with_reducible rfl
    rotate_left
    · simp only [Act.put, List.setIfInBounds_toArray, List.set_cons_zero, List.set_cons_succ, i64_w, i32_w]
      rfl
    refine pure_ (i := 12) (N := some 96) (v := ?_) (a' := ?_) #[true, true, true, true, true, true, true, true, true, true, true, true, true, false, true, true, false, false] rfl rfl (by kernel_rfl) (fun _ _ _ h => h) (Or.inl ⟨by rfl, ?_⟩) ?_ ?_
    rotate_left
    · intro w'
      go_simp
      with_reducible rfl
    rotate_left
    · simp only [Act.put, List.setIfInBounds_toArray, List.set_cons_zero, List.set_cons_succ, i64_w, i32_w]
      rfl
    refine one_ (i := 13) (N := none) #[true, true, true, true, true, true, true, true, true, true, true, true, true, true, true, true, false, false] rfl rfl (by kernel_rfl) (by decide) (fun K hK => ?_)
    refine skip_ (w1 := ?_) (by rfl) rfl ?_ ?_
    rotate_left
    · go_simp
      rfl
    have hI1 := HI.out.drew.set (HI.out.drew.wv.sgr (i := id - 1) HA.out.2 true)
    refine hK.out _ _ (hI1.e1) (fun hHeld => ?_)
    clear hK K
    refine pure_ (i := 16) (N := some 99) (v := ?_) (a' := ?_) #[true, true, true, true, true, true, true, true, true, true, true, true, true, true, true, true, true, false] rfl rfl (by kernel_rfl) (fun _ _ _ h => h) (Or.inl ⟨by rfl, ?_⟩) ?_ ?_
    rotate_left
    · intro w'
      go_simp
      with_reducible rfl
    rotate_left
    · simp only [Act.put, List.setIfInBounds_toArray, List.set_cons_zero, List.set_cons_succ, i64_w, i32_w]
      rfl
    refine last_ (i := 17) (N := none) #[true, true, true, true, true, true, true, true, true, true, true, true, true, true, true, true, true, true] rfl rfl (by kernel_rfl) (by decide) (fun K hK => ?_)
    refine skip_ (w1 := ?_) (by rfl) rfl ?_ ?_
    rotate_left
    · go_simp
      rfl
    refine hK.out _ _ ?_
    clear hK K
    refine done_ (by kernel_rfl) ?_
    clear hwi
    obtain ⟨W2, hW2⟩ : ∃ W2, W2 = ((W.setCell ⟨gw, 133 + (id - 1), none⟩ (.bool true)).setCell ⟨gw, 133 + id, none⟩ (.bool false)).drew := ⟨_, rfl⟩
    rw [← hW2]
    have q1 := HI.out.set (HI.out.wv.sgr (i := id - 1) HA.out.2 true)
    have hI2 := (q1.set (q1.wv.sgr (i := id) HA.out.1 false)).drew
    rw [← hW2] at hI2
    clear hW2 g1 gz g2 gz2 q1 hI1 hHeld
    have r1 := hI2.wv.kwd
    have r2 := hI2.wv.k0
    have r3 := hI2.e1
    have r4 := HYX.out _ _ hI2.wv
    have rz := hI2.wv.frozen 201
    have HI2 := Lib.hid hI2
    clear hI2
    go_wp2_with fail
    refine start_ (n := 17) (S := fun w' => w'.cell? ⟨gw, 201, none⟩ = some (.int .i64 x.wd) ∧ w'.cell? ⟨gw, 0, none⟩ = some (.slice (some ⟨b0, o0, none⟩) ws.length c0) ∧ w'.cell? ⟨w.heap.size, 1, none⟩ = some (.int .i64 (id : Int)) ∧ w'.cell? ⟨b0, o0 + id, none⟩ = some (.int .i64 X)) (ds := [16]) #[false, false, false, false, false, false, false, false, false, false, false, false, false, false, false, false, false] (by kernel_rfl) rfl rfl ⟨r1, r2, r3, r4⟩ (fun hHeld => ?_)
    refine pure_ (i := 0) (N := some 100) (v := ?_) (a' := ?_) #[true, false, false, false, false, false, false, false, false, false, false, false, false, false, false, false, false] rfl rfl (by kernel_rfl) (fun _ _ _ h => h) (Or.inl ⟨by rfl, ?_⟩) ?_ ?_
    rotate_left
    · intro w'
      go_simp
      with_reducible rfl
    rotate_left
    · simp only [Act.put, List.setIfInBounds_toArray, List.set_cons_zero, List.set_cons_succ, i64_w, i32_w]
      rfl
    refine pure_ (i := 1) (N := some 101) (v := ?_) (a' := ?_) #[true, true, false, false, false, false, false, false, false, false, false, false, false, false, false, false, false] rfl rfl (by kernel_rfl) (fun _ _ _ h => h) (Or.inl ⟨by rfl, ?_⟩) ?_ ?_
    rotate_left
    · intro w'
      go_simp
      with_reducible rfl
    rotate_left
    · simp only [Act.put, List.setIfInBounds_toArray, List.set_cons_zero, List.set_cons_succ, i64_w, i32_w]
      rfl
    refine pure_ (i := 2) (N := some 102) (v := ?_) (a' := ?_) #[true, true, true, false, false, false, false, false, false, false, false, false, false, false, false, false, false] rfl rfl (by kernel_rfl) (fun _ _ _ h => h) (Or.inl ⟨by rfl, ?_⟩) ?_ ?_
    rotate_left
    · intro w'
      go_simp
      with_reducible rfl
    rotate_left
    · simp only [Act.put, List.setIfInBounds_toArray, List.set_cons_zero, List.set_cons_succ, i64_w, i32_w]
      rfl
    refine pure_ (i := 4) (N := some 104) (v := ?_) (a' := ?_) #[true, true, true, false, true, false, false, false, false, false, false, false, false, false, false, false, false] rfl rfl (by kernel_rfl) (fun _ _ _ h => h) (Or.inl ⟨by rfl, ?_⟩) ?_ ?_
    rotate_left
    · intro w'
      go_simp
      with_reducible rfl
    rotate_left
    · simp only [Act.put, List.setIfInBounds_toArray, List.set_cons_zero, List.set_cons_succ, i64_w, i32_w]
      rfl
    refine pure_ (i := 5) (N := some 105) (v := ?_) (a' := ?_) #[true, true, true, false, true, true, false, false, false, false, false, false, false, false, false, false, false] rfl rfl (by kernel_rfl) (fun _ _ _ h => h) (Or.inl ⟨by rfl, ?_⟩) ?_ ?_
    rotate_left
    · intro w'
      go_simp
      with_reducible rfl
    rotate_left
    · simp only [Act.put, List.setIfInBounds_toArray, List.set_cons_zero, List.set_cons_succ, i64_w, i32_w]
      rfl
    refine pure_ (i := 6) (N := some 106) (v := ?_) (a' := ?_) #[true, true, true, false, true, true, true, false, false, false, false, false, false, false, false, false, false] rfl rfl (by kernel_rfl) (fun _ _ _ h => h) (Or.inl ⟨by rfl, ?_⟩) ?_ ?_
    rotate_left
    · intro w'
      go_simp
      with_reducible rfl
    rotate_left
    · simp only [Act.put, List.setIfInBounds_toArray, List.set_cons_zero, List.set_cons_succ, i64_w, i32_w]
      rfl
    refine pure_ (i := 7) (N := some 107) (v := ?_) (a' := ?_) #[true, true, true, false, true, true, true, true, false, false, false, false, false, false, false, false, false] rfl rfl (by kernel_rfl) (fun _ _ _ h => h) (Or.inl ⟨by rfl, ?_⟩) ?_ ?_
    rotate_left
    · intro w'
      go_simp
      with_reducible rfl
    rotate_left
    · simp only [Act.put, List.setIfInBounds_toArray, List.set_cons_zero, List.set_cons_succ, i64_w, i32_w]
      rfl
    refine pure_ (i := 9) (N := some 109) (v := ?_) (a' := ?_) #[true, true, true, false, true, true, true, true, false, true, false, false, false, false, false, false, false] rfl rfl (by kernel_rfl) (fun _ _ _ h => h) (Or.inl ⟨by rfl, ?_⟩) ?_ ?_
    rotate_left
    · intro w'
      go_simp
      with_reducible rfl
    rotate_left
    · simp only [Act.put, List.setIfInBounds_toArray, List.set_cons_zero, List.set_cons_succ, i64_w, i32_w]
      rfl
    refine take_ (i := 3) (N := some 103) (v := ?_) (a' := ?_) #[true, true, true, true, true, true, true, true, false, true, false, false, false, false, false, false, false] rfl rfl (by kernel_rfl) (fun _ _ _ h => h) (Or.inl ⟨by rfl, ?_⟩) hHeld ?_ ?_
    rotate_left
    · rintro w' ⟨s0, s1, s2, s3⟩
      go_simp
      with_reducible rfl
    rotate_left
    · simp only [Act.put, List.setIfInBounds_toArray, List.set_cons_zero, List.set_cons_succ, i64_w, i32_w]
      rfl
    refine take_ (i := 8) (N := some 108) (v := ?_) (a' := ?_) #[true, true, true, true, true, true, true, true, true, true, false, false, false, false, false, false, false] rfl rfl (by kernel_rfl) (fun _ _ _ h => h) (Or.inl ⟨by rfl, ?_⟩) hHeld ?_ ?_
    rotate_left
    · rintro w' ⟨s0, s1, s2, s3⟩
      go_simp
      with_reducible rfl
    rotate_left
    · simp only [Act.put, List.setIfInBounds_toArray, List.set_cons_zero, List.set_cons_succ, i64_w, i32_w]
      rfl
    refine take_ (i := 10) (N := some 110) (v := ?_) (a' := ?_) #[true, true, true, true, true, true, true, true, true, true, true, false, false, false, false, false, false] rfl rfl (by kernel_rfl) (fun _ _ _ h => h) (Or.inl ⟨by rfl, ?_⟩) hHeld ?_ ?_
    rotate_left
    · rintro w' ⟨s0, s1, s2, s3⟩
      go_simp
      with_reducible rfl
    rotate_left
    · simp only [Act.put, List.setIfInBounds_toArray, List.set_cons_zero, List.set_cons_succ, i64_w, i32_w]
      rfl
    refine pure_ (i := 11) (N := some 111) (v := ?_) (a' := ?_) #[true, true, true, true, true, true, true, true, true, true, true, true, false, false, false, false, false] rfl rfl (by kernel_rfl) (fun _ _ _ h => h) (Or.inl ⟨by rfl, ?_⟩) ?_ ?_
    rotate_left
    · intro w'
      go_simp
      with_reducible rfl
    rotate_left
    · simp only [Act.put, List.setIfInBounds_toArray, List.set_cons_zero, List.set_cons_succ, i64_w, i32_w]
      rfl
    refine take_ (i := 12) (N := some 112) (v := ?_) (a' := ?_) #[true, true, true, true, true, true, true, true, true, true, true, true, true, false, false, false, false] rfl rfl (by kernel_rfl) (fun _ _ _ h => h) (Or.inl ⟨by rfl, ?_⟩) hHeld ?_ ?_
    rotate_left
    · rintro w' ⟨s0, s1, s2, s3⟩
      go_simp
      with_reducible rfl
    rotate_left
    · simp only [Act.put, List.setIfInBounds_toArray, List.set_cons_zero, List.set_cons_succ, i64_w, i32_w]
      rfl
    refine pure_ (i := 13) (N := some 113) (v := ?_) (a' := ?_) #[true, true, true, true, true, true, true, true, true, true, true, true, true, true, false, false, false] rfl rfl (by kernel_rfl) (fun _ _ _ h => h) (Or.inl ⟨by rfl, ?_⟩) ?_ ?_
    rotate_left
    · intro w'
      go_simp
      with_reducible rfl
    rotate_left
    · simp only [Act.put, List.setIfInBounds_toArray, List.set_cons_zero, List.set_cons_succ, i64_w, i32_w]
      rfl
    refine pure_ (i := 14) (N := some 114) (v := ?_) (a' := ?_) #[true, true, true, true, true, true, true, true, true, true, true, true, true, true, true, false, false] rfl rfl (by kernel_rfl) (fun _ _ _ h => h) (Or.inl ⟨by rfl, ?_⟩) ?_ ?_
    rotate_left
    · intro w'
      go_simp
      with_reducible rfl
    rotate_left
    · simp only [Act.put, List.setIfInBounds_toArray, List.set_cons_zero, List.set_cons_succ, i64_w, i32_w]
      rfl
    refine pure_ (i := 15) (N := some 115) (v := ?_) (a' := ?_) #[true, true, true, true, true, true, true, true, true, true, true, true, true, true, true, true, false] rfl rfl (by kernel_rfl) (fun _ _ _ h => h) (Or.inl ⟨by rfl, ?_⟩) ?_ ?_
    rotate_left
    · intro w'
      go_simp
      with_reducible rfl
    rotate_left
    · simp only [Act.put, List.setIfInBounds_toArray, List.set_cons_zero, List.set_cons_succ, i64_w, i32_w]
      rfl
    refine last_ (i := 16) (N := none) #[true, true, true, true, true, true, true, true, true, true, true, true, true, true, true, true, true] rfl rfl (by kernel_rfl) (by decide) (fun K hK => ?_)
    refine skip_ (w1 := ?_) (by rfl) rfl ?_ ?_
    rotate_left
    · go_simp
      rfl
    refine hK.out _ _ ?_
    clear hK K
    refine done_ (by kernel_rfl) ?_
    rw [HWR.out]
    clear r1 r2 r3 r4 rz
    obtain ⟨W3, hW3⟩ : ∃ W3, W3 = (W2.setCell ⟨gw, 201, none⟩ (.int .i64 (x.wd - X))).drew := ⟨_, rfl⟩
    rw [← hW3]
    have hI3 := (HI2.out.set (HI2.out.wv.swd (x.wd - X))).drew
    rw [← hW3] at hI3
    clear hW3
    have r1 := hI3.wv.kdn
    have rz := hI3.wv.frozen 200
    have HI3 := Lib.hid hI3
    clear hI3
    go_wp2_with fail
    refine bodyPost_end (results_none rfl _ _ _) rfl ?_
    exact EfI.post (HI3.out.set (HI3.out.wv.sdn (x.dn + 1))) HX.out
  · have hj : ¬ (1 : Int) < (id : Int) := by omega
    have hdc : decide (1 < id) = false := by simp; omega
    rw [hdc] at HX
    clear hi hdc
    have hdb : decide ((1 : Int) < (id : Int)) = false := by simp; omega
    go_enter Try.func42, Try.ntmps42
    go_wp2_with fail
    rw [← HW.out]
    have hwi := HWI.out
    refine start_ (n := 18) (S := fun w' => w'.cell? ⟨w.heap.size, 1, none⟩ = some (.int .i64 (id : Int))) (ds := [17]) #[false, false, false, false, false, false, false, false, false, false, false, false, false, false, false, false, false, false] (by kernel_rfl) rfl rfl (e1) (fun hHeld => ?_)
    refine pure_ (i := 0) (N := some 84) (v := ?_) (a' := ?_) #[true, false, false, false, false, false, false, false, false, false, false, false, false, false, false, false, false, false] rfl rfl (by kernel_rfl) (fun _ _ _ h => h) (Or.inl ⟨by rfl, ?_⟩) ?_ ?_
    rotate_left
    · intro w'
      go_simp
      with_reducible rfl
    rotate_left
    · simp only [Act.put, List.setIfInBounds_toArray, List.set_cons_zero, List.set_cons_succ, i64_w, i32_w]
      rfl
    refine pure_ (i := 1) (N := some 85) (v := ?_) (a' := ?_) #[true, true, false, false, false, false, false, false, false, false, false, false, false, false, false, false, false, false] rfl rfl (by kernel_rfl) (fun _ _ _ h => h) (Or.inl ⟨by rfl, ?_⟩) ?_ ?_
    rotate_left
    · intro w'
      go_simp
      with_reducible rfl
    rotate_left
    · simp only [Act.put, List.setIfInBounds_toArray, List.set_cons_zero, List.set_cons_succ, i64_w, i32_w]
      rfl
    refine pure_ (i := 4) (N := some 88) (v := ?_) (a' := ?_) #[true, true, false, false, true, false, false, false, false, false, false, false, false, false, false, false, false, false] rfl rfl (by kernel_rfl) (fun _ _ _ h => h) (Or.inl ⟨by rfl, ?_⟩) ?_ ?_
    rotate_left
    · intro w'
      go_simp
      with_reducible rfl
    rotate_left
    · simp only [Act.put, List.setIfInBounds_toArray, List.set_cons_zero, List.set_cons_succ, i64_w, i32_w]
      rfl
    refine pure_ (i := 5) (N := some 89) (v := ?_) (a' := ?_) #[true, true, false, false, true, true, false, false, false, false, false, false, false, false, false, false, false, false] rfl rfl (by kernel_rfl) (fun _ _ _ h => h) (Or.inl ⟨by rfl, ?_⟩) ?_ ?_
    rotate_left
    · intro w'
      go_simp
      with_reducible rfl
    rotate_left
    · simp only [Act.put, List.setIfInBounds_toArray, List.set_cons_zero, List.set_cons_succ, i64_w, i32_w]
      rfl
    refine pure_ (i := 7) (N := some 91) (v := ?_) (a' := ?_) #[true, true, false, false, true, true, false, true, false, false, false, false, false, false, false, false, false, false] rfl rfl (by kernel_rfl) (fun _ _ _ h => h) (Or.inl ⟨by rfl, ?_⟩) ?_ ?_
    rotate_left
    · intro w'
      go_simp
      with_reducible rfl
    rotate_left
    · simp only [Act.put, List.setIfInBounds_toArray, List.set_cons_zero, List.set_cons_succ, i64_w, i32_w]
      rfl
    refine pure_ (i := 10) (N := some 94) (v := ?_) (a' := ?_) #[true, true, false, false, true, true, false, true, false, false, true, false, false, false, false, false, false, false] rfl rfl (by kernel_rfl) (fun _ _ _ h => h) (Or.inl ⟨by rfl, ?_⟩) ?_ ?_
    rotate_left
    · intro w'
      go_simp
      with_reducible rfl
    rotate_left
    · simp only [Act.put, List.setIfInBounds_toArray, List.set_cons_zero, List.set_cons_succ, i64_w, i32_w]
      rfl
    refine pure_ (i := 11) (N := some 95) (v := ?_) (a' := ?_) #[true, true, false, false, true, true, false, true, false, false, true, true, false, false, false, false, false, false] rfl rfl (by kernel_rfl) (fun _ _ _ h => h) (Or.inl ⟨by rfl, ?_⟩) ?_ ?_
    rotate_left
    · intro w'
      go_simp
      with_reducible rfl
    rotate_left
    · simp only [Act.put, List.setIfInBounds_toArray, List.set_cons_zero, List.set_cons_succ, i64_w, i32_w]
      rfl
    refine pure_ (i := 14) (N := some 97) (v := ?_) (a' := ?_) #[true, true, false, false, true, true, false, true, false, false, true, true, false, false, true, false, false, false] rfl rfl (by kernel_rfl) (fun _ _ _ h => h) (Or.inl ⟨by rfl, ?_⟩) ?_ ?_
    rotate_left
    · intro w'
      go_simp
      with_reducible rfl
    rotate_left
    · simp only [Act.put, List.setIfInBounds_toArray, List.set_cons_zero, List.set_cons_succ, i64_w, i32_w]
      rfl
    refine pure_ (i := 15) (N := some 98) (v := ?_) (a' := ?_) #[true, true, false, false, true, true, false, true, false, false, true, true, false, false, true, true, false, false] rfl rfl (by kernel_rfl) (fun _ _ _ h => h) (Or.inl ⟨by rfl, ?_⟩) ?_ ?_
    rotate_left
    · intro w'
      go_simp
      with_reducible rfl
    rotate_left
    · simp only [Act.put, List.setIfInBounds_toArray, List.set_cons_zero, List.set_cons_succ, i64_w, i32_w]
      rfl
    refine take_ (i := 2) (N := some 86) (v := ?_) (a' := ?_) #[true, true, true, false, true, true, false, true, false, false, true, true, false, false, true, true, false, false] rfl rfl (by kernel_rfl) (fun _ _ _ h => h) (Or.inl ⟨by rfl, ?_⟩) hHeld ?_ ?_
    rotate_left
    · intro w' s0
      go_simp
      with_reducible rfl
    rotate_left
    · simp only [Act.put, List.setIfInBounds_toArray, List.set_cons_zero, List.set_cons_succ, i64_w, i32_w]
      rfl
    refine pure_ (i := 3) (N := some 87) (v := ?_) (a' := ?_) #[true, true, true, true, true, true, false, true, false, false, true, true, false, false, true, true, false, false] rfl rfl (by kernel_rfl) (fun _ _ _ h => h) (Or.inl ⟨by rfl, ?_⟩) ?_ ?_
    rotate_left
    · intro w'
      go_simp
      with_reducible rfl
    rotate_left
    · simp only [Act.put, List.setIfInBounds_toArray, List.set_cons_zero, List.set_cons_succ, i64_w, i32_w]
      rfl
    refine take_ (i := 6) (N := some 90) (v := ?_) (a' := ?_) #[true, true, true, true, true, true, true, true, false, false, true, true, false, false, true, true, false, false] rfl rfl (by kernel_rfl) (fun _ _ _ h => h) (Or.inl ⟨by rfl, ?_⟩) hHeld ?_ ?_
    rotate_left
    · intro w' s0
      go_simp
      with_reducible rfl
    rotate_left
    · simp only [Act.put, List.setIfInBounds_toArray, List.set_cons_zero, List.set_cons_succ, i64_w, i32_w]
      rfl
    refine take_ (i := 8) (N := some 92) (v := ?_) (a' := ?_) #[true, true, true, true, true, true, true, true, true, false, true, true, false, false, true, true, false, false] rfl rfl (by kernel_rfl) (fun _ _ _ h => h) (Or.inl ⟨by rfl, ?_⟩) hHeld ?_ ?_
    rotate_left
    · intro w' s0
      go_simp
      with_reducible rfl
    rotate_left
    · simp only [Act.put, List.setIfInBounds_toArray, List.set_cons_zero, List.set_cons_succ, i64_w, i32_w]
      rfl
    refine pure_ (i := 9) (N := some 93) (v := ?_) (a' := ?_) #[true, true, true, true, true, true, true, true, true, true, true, true, false, false, true, true, false, false] rfl rfl (by kernel_rfl) (fun _ _ _ h => h) (Or.inl ⟨by rfl, ?_⟩) ?_ ?_
    rotate_left
    · intro w'
      go_simp
      with_reducible rfl
    rotate_left
    · simp only [Act.put, List.setIfInBounds_toArray, List.set_cons_zero, List.set_cons_succ, i64_w, i32_w]
      rfl
    refine pure_ (i := 12) (N := some 96) (v := ?_) (a' := ?_) #[true, true, true, true, true, true, true, true, true, true, true, true, true, false, true, true, false, false] rfl rfl (by kernel_rfl) (fun _ _ _ h => h) (Or.inl ⟨by rfl, ?_⟩) ?_ ?_
    rotate_left
    · intro w'
      go_simp
      with_reducible rfl
    rotate_left
    · simp only [Act.put, List.setIfInBounds_toArray, List.set_cons_zero, List.set_cons_succ, i64_w, i32_w]
      rfl
    refine one_ (i := 13) (N := none) #[true, true, true, true, true, true, true, true, true, true, true, true, true, true, true, true, false, false] rfl rfl (by kernel_rfl) (by decide) (fun K hK => ?_)
    refine skip_ (w1 := ?_) (by rfl) rfl ?_ ?_
    rotate_left
    · go_simp
      rfl
    have hI1 := HI.out.drew.set (HI.out.drew.wv.sgr (i := id - 1) HA.out.2 false)
    refine hK.out _ _ (hI1.e1) (fun hHeld => ?_)
    clear hK K
    refine pure_ (i := 16) (N := some 99) (v := ?_) (a' := ?_) #[true, true, true, true, true, true, true, true, true, true, true, true, true, true, true, true, true, false] rfl rfl (by kernel_rfl) (fun _ _ _ h => h) (Or.inl ⟨by rfl, ?_⟩) ?_ ?_
    rotate_left
    · intro w'
      go_simp
      with_reducible rfl
    rotate_left
    · simp only [Act.put, List.setIfInBounds_toArray, List.set_cons_zero, List.set_cons_succ, i64_w, i32_w]
      rfl
    refine last_ (i := 17) (N := none) #[true, true, true, true, true, true, true, true, true, true, true, true, true, true, true, true, true, true] rfl rfl (by kernel_rfl) (by decide) (fun K hK => ?_)
    refine skip_ (w1 := ?_) (by rfl) rfl ?_ ?_
    rotate_left
    · go_simp
      rfl
    refine hK.out _ _ ?_
    clear hK K
    refine done_ (by kernel_rfl) ?_
    clear hwi
    obtain ⟨W2, hW2⟩ : ∃ W2, W2 = ((W.setCell ⟨gw, 133 + (id - 1), none⟩ (.bool false)).setCell ⟨gw, 133 + id, none⟩ (.bool false)).drew := ⟨_, rfl⟩
    rw [← hW2]
    have q1 := HI.out.set (HI.out.wv.sgr (i := id - 1) HA.out.2 false)
    have hI2 := (q1.set (q1.wv.sgr (i := id) HA.out.1 false)).drew
    rw [← hW2] at hI2
    clear hW2 g1 gz g2 gz2 q1 hI1 hHeld
    have r1 := hI2.wv.kwd
    have r2 := hI2.wv.k0
    have r3 := hI2.e1
    have r4 := HYX.out _ _ hI2.wv
    have rz := hI2.wv.frozen 201
    have HI2 := Lib.hid hI2
    clear hI2
    go_wp2_with fail
    refine start_ (n := 17) (S := fun w' => w'.cell? ⟨gw, 201, none⟩ = some (.int .i64 x.wd) ∧ w'.cell? ⟨gw, 0, none⟩ = some (.slice (some ⟨b0, o0, none⟩) ws.length c0) ∧ w'.cell? ⟨w.heap.size, 1, none⟩ = some (.int .i64 (id : Int)) ∧ w'.cell? ⟨b0, o0 + id, none⟩ = some (.int .i64 X)) (ds := [16]) #[false, false, false, false, false, false, false, false, false, false, false, false, false, false, false, false, false] (by kernel_rfl) rfl rfl ⟨r1, r2, r3, r4⟩ (fun hHeld => ?_)
    refine pure_ (i := 0) (N := some 100) (v := ?_) (a' := ?_) #[true, false, false, false, false, false, false, false, false, false, false, false, false, false, false, false, false] rfl rfl (by kernel_rfl) (fun _ _ _ h => h) (Or.inl ⟨by rfl, ?_⟩) ?_ ?_
    rotate_left
    · intro w'
      go_simp
      with_reducible rfl
    rotate_left
    · simp only [Act.put, List.setIfInBounds_toArray, List.set_cons_zero, List.set_cons_succ, i64_w, i32_w]
      rfl
    refine pure_ (i := 1) (N := some 101) (v := ?_) (a' := ?_) #[true, true, false, false, false, false, false, false, false, false, false, false, false, false, false, false, false] rfl rfl (by kernel_rfl) (fun _ _ _ h => h) (Or.inl ⟨by rfl, ?_⟩) ?_ ?_
    rotate_left
    · intro w'
      go_simp
      with_reducible rfl
    rotate_left
    · simp only [Act.put, List.setIfInBounds_toArray, List.set_cons_zero, List.set_cons_succ, i64_w, i32_w]
      rfl
    refine pure_ (i := 2) (N := some 102) (v := ?_) (a' := ?_) #[true, true, true, false, false, false, false, false, false, false, false, false, false, false, false, false, false] rfl rfl (by kernel_rfl) (fun _ _ _ h => h) (Or.inl ⟨by rfl, ?_⟩) ?_ ?_
    rotate_left
    · intro w'
      go_simp
      with_reducible rfl
    rotate_left
    · simp only [Act.put, List.setIfInBounds_toArray, List.set_cons_zero, List.set_cons_succ, i64_w, i32_w]
      rfl
    refine pure_ (i := 4) (N := some 104) (v := ?_) (a' := ?_) #[true, true, true, false, true, false, false, false, false, false, false, false, false, false, false, false, false] rfl rfl (by kernel_rfl) (fun _ _ _ h => h) (Or.inl ⟨by rfl, ?_⟩) ?_ ?_
    rotate_left
    · intro w'
      go_simp
      with_reducible rfl
    rotate_left
    · simp only [Act.put, List.setIfInBounds_toArray, List.set_cons_zero, List.set_cons_succ, i64_w, i32_w]
      rfl
    refine pure_ (i := 5) (N := some 105) (v := ?_) (a' := ?_) #[true, true, true, false, true, true, false, false, false, false, false, false, false, false, false, false, false] rfl rfl (by kernel_rfl) (fun _ _ _ h => h) (Or.inl ⟨by rfl, ?_⟩) ?_ ?_
    rotate_left
    · intro w'
      go_simp
      with_reducible rfl
    rotate_left
    · simp only [Act.put, List.setIfInBounds_toArray, List.set_cons_zero, List.set_cons_succ, i64_w, i32_w]
      rfl
    refine pure_ (i := 6) (N := some 106) (v := ?_) (a' := ?_) #[true, true, true, false, true, true, true, false, false, false, false, false, false, false, false, false, false] rfl rfl (by kernel_rfl) (fun _ _ _ h => h) (Or.inl ⟨by rfl, ?_⟩) ?_ ?_
    rotate_left
    · intro w'
      go_simp
      with_reducible rfl
    rotate_left
    · simp only [Act.put, List.setIfInBounds_toArray, List.set_cons_zero, List.set_cons_succ, i64_w, i32_w]
      rfl
    refine pure_ (i := 7) (N := some 107) (v := ?_) (a' := ?_) #[true, true, true, false, true, true, true, true, false, false, false, false, false, false, false, false, false] rfl rfl (by kernel_rfl) (fun _ _ _ h => h) (Or.inl ⟨by rfl, ?_⟩) ?_ ?_
    rotate_left
    · intro w'
      go_simp
      with_reducible rfl
    rotate_left
    · simp only [Act.put, List.setIfInBounds_toArray, List.set_cons_zero, List.set_cons_succ, i64_w, i32_w]
      rfl
    refine pure_ (i := 9) (N := some 109) (v := ?_) (a' := ?_) #[true, true, true, false, true, true, true, true, false, true, false, false, false, false, false, false, false] rfl rfl (by kernel_rfl) (fun _ _ _ h => h) (Or.inl ⟨by rfl, ?_⟩) ?_ ?_
    rotate_left
    · intro w'
      go_simp
      with_reducible rfl
    rotate_left
    · simp only [Act.put, List.setIfInBounds_toArray, List.set_cons_zero, List.set_cons_succ, i64_w, i32_w]
      rfl
    refine take_ (i := 3) (N := some 103) (v := ?_) (a' := ?_) #[true, true, true, true, true, true, true, true, false, true, false, false, false, false, false, false, false] rfl rfl (by kernel_rfl) (fun _ _ _ h => h) (Or.inl ⟨by rfl, ?_⟩) hHeld ?_ ?_
    rotate_left
    · rintro w' ⟨s0, s1, s2, s3⟩
      go_simp
      with_reducible rfl
    rotate_left
    · simp only [Act.put, List.setIfInBounds_toArray, List.set_cons_zero, List.set_cons_succ, i64_w, i32_w]
      rfl
    refine take_ (i := 8) (N := some 108) (v := ?_) (a' := ?_) #[true, true, true, true, true, true, true, true, true, true, false, false, false, false, false, false, false] rfl rfl (by kernel_rfl) (fun _ _ _ h => h) (Or.inl ⟨by rfl, ?_⟩) hHeld ?_ ?_
    rotate_left
    · rintro w' ⟨s0, s1, s2, s3⟩
      go_simp
      with_reducible rfl
    rotate_left
    · simp only [Act.put, List.setIfInBounds_toArray, List.set_cons_zero, List.set_cons_succ, i64_w, i32_w]
      rfl
    refine take_ (i := 10) (N := some 110) (v := ?_) (a' := ?_) #[true, true, true, true, true, true, true, true, true, true, true, false, false, false, false, false, false] rfl rfl (by kernel_rfl) (fun _ _ _ h => h) (Or.inl ⟨by rfl, ?_⟩) hHeld ?_ ?_
    rotate_left
    · rintro w' ⟨s0, s1, s2, s3⟩
      go_simp
      with_reducible rfl
    rotate_left
    · simp only [Act.put, List.setIfInBounds_toArray, List.set_cons_zero, List.set_cons_succ, i64_w, i32_w]
      rfl
    refine pure_ (i := 11) (N := some 111) (v := ?_) (a' := ?_) #[true, true, true, true, true, true, true, true, true, true, true, true, false, false, false, false, false] rfl rfl (by kernel_rfl) (fun _ _ _ h => h) (Or.inl ⟨by rfl, ?_⟩) ?_ ?_
    rotate_left
    · intro w'
      go_simp
      with_reducible rfl
    rotate_left
    · simp only [Act.put, List.setIfInBounds_toArray, List.set_cons_zero, List.set_cons_succ, i64_w, i32_w]
      rfl
    refine take_ (i := 12) (N := some 112) (v := ?_) (a' := ?_) #[true, true, true, true, true, true, true, true, true, true, true, true, true, false, false, false, false] rfl rfl (by kernel_rfl) (fun _ _ _ h => h) (Or.inl ⟨by rfl, ?_⟩) hHeld ?_ ?_
    rotate_left
    · rintro w' ⟨s0, s1, s2, s3⟩
      go_simp
      with_reducible rfl
    rotate_left
    · simp only [Act.put, List.setIfInBounds_toArray, List.set_cons_zero, List.set_cons_succ, i64_w, i32_w]
      rfl
    refine pure_ (i := 13) (N := some 113) (v := ?_) (a' := ?_) #[true, true, true, true, true, true, true, true, true, true, true, true, true, true, false, false, false] rfl rfl (by kernel_rfl) (fun _ _ _ h => h) (Or.inl ⟨by rfl, ?_⟩) ?_ ?_
    rotate_left
    · intro w'
      go_simp
      with_reducible rfl
    rotate_left
    · simp only [Act.put, List.setIfInBounds_toArray, List.set_cons_zero, List.set_cons_succ, i64_w, i32_w]
      rfl
    refine pure_ (i := 14) (N := some 114) (v := ?_) (a' := ?_) #[true, true, true, true, true, true, true, true, true, true, true, true, true, true, true, false, false] rfl rfl (by kernel_rfl) (fun _ _ _ h => h) (Or.inl ⟨by rfl, ?_⟩) ?_ ?_
    rotate_left
    · intro w'
      go_simp
      with_reducible rfl
    rotate_left
    · simp only [Act.put, List.setIfInBounds_toArray, List.set_cons_zero, List.set_cons_succ, i64_w, i32_w]
      rfl
    refine pure_ (i := 15) (N := some 115) (v := ?_) (a' := ?_) #[true, true, true, true, true, true, true, true, true, true, true, true, true, true, true, true, false] rfl rfl (by kernel_rfl) (fun _ _ _ h => h) (Or.inl ⟨by rfl, ?_⟩) ?_ ?_
    rotate_left
    · intro w'
      go_simp
      with_reducible rfl
    rotate_left
    · simp only [Act.put, List.setIfInBounds_toArray, List.set_cons_zero, List.set_cons_succ, i64_w, i32_w]
      rfl
    refine last_ (i := 16) (N := none) #[true, true, true, true, true, true, true, true, true, true, true, true, true, true, true, true, true] rfl rfl (by kernel_rfl) (by decide) (fun K hK => ?_)
    refine skip_ (w1 := ?_) (by rfl) rfl ?_ ?_
    rotate_left
    · go_simp
      rfl
    refine hK.out _ _ ?_
    clear hK K
    refine done_ (by kernel_rfl) ?_
    rw [HWR.out]
    clear r1 r2 r3 r4 rz
    obtain ⟨W3, hW3⟩ : ∃ W3, W3 = (W2.setCell ⟨gw, 201, none⟩ (.int .i64 (x.wd - X))).drew := ⟨_, rfl⟩
    rw [← hW3]
    have hI3 := (HI2.out.set (HI2.out.wv.swd (x.wd - X))).drew
    rw [← hW3] at hI3
    clear hW3
    have r1 := hI3.wv.kdn
    have rz := hI3.wv.frozen 200
    have HI3 := Lib.hid hI3
    clear hI3
    go_wp2_with fail
    refine bodyPost_end (results_none rfl _ _ _) rfl ?_
    exact EfI.post (HI3.out.set (HI3.out.wv.sdn (x.dn + 1))) HX.out
end Go.Proofs.Ytiejdbdbafmccaa
/- part ChDo -/
namespace Go.Proofs.Ytiejdbdbafmccaa
open Go.RowKit Go.Proofs.YtiejdbdbafmccaaW.PrintWords Go.Proofs.YtiejdbdbafmccaaW.PrintLast Go.Proofs.Ytiejdbdbafmccaa.PCh
def addW (x : Wk) (mo : Int) : Wk := { x with wd := x.wd + mo, pk := max x.pk (x.wd + mo) }
def doW (x : Wk) (ws cs : List Int) (cap : Int) (k : Int) (id : Nat) : Wk × Int :=
  if mayB x cs.length k id = false then (x, 24) else if cap < x.wd + moreI ws cs.length k id then (x, 25) else (effW (addW x (moreI ws cs.length k id)) ws cs k id, 0)
structure DoP (N gw b0 o0 c0 b1 o1 c1 : Nat) (ws cs : List Int) (cap : Int) (r : Wk × Int) (w : World) (e : Ending) (w' : World) : Prop where
  ret : e = .returned (.int .i64 r.2)
  wv : WV N gw b0 o0 c0 b1 o1 c1 ws cs cap r.1 w'
  fr : Frm [some gw] w w'
structure BdW (t : Nat) (x : Wk) : Prop where
  dn : 0 ≤ x.dn ∧ x.dn ≤ t
  wd : -131072 * (t : Int) ≤ x.wd ∧ x.wd ≤ 131072 * (t : Int)
  ct : 0 ≤ x.ct ∧ x.ct ≤ 1099511627776 * (t : Int)
  pk : 0 ≤ x.pk ∧ x.pk ≤ 131072 * (t : Int) + 65536
theorem more_bd {ws cs : List Int} (ht : Rt ws cs) (n : Nat) (k : Int) (id : Nat) : 0 ≤ moreI ws n k id ∧ moreI ws n k id ≤ 65536 := by
  have h1 := ws_bd ht id
  have h2 := ws_bd ht n
  have h3 := ws_bd ht (id - 1)
  unfold moreI
  (repeat' split) <;> omega
theorem eff_bd {ws cs : List Int} (ht : Rt ws cs) {t : Nat} {x : Wk} (hb : BdW t x) (k : Int) (id : Nat) (mo : Int) (hm : 0 ≤ mo ∧ mo ≤ 65536) : BdW (t + 1) (effW (addW x mo) ws cs k id) := by
  obtain ⟨h1, h2, h3, h4⟩ := hb
  have q1 := ws_bd ht id
  have q2 := cs_bd ht (id - 1)
  unfold effW addW
  (repeat' split) <;> constructor <;> simp only <;> omega
theorem do_bd {ws cs : List Int} (ht : Rt ws cs) {t : Nat} {x : Wk} (hb : BdW t x) (cap : Int) (k : Int) (id : Nat) : BdW (t + 1) (doW x ws cs cap k id).1 := by
  have hx : BdW (t + 1) x := by
    obtain ⟨h1, h2, h3, h4⟩ := hb
    constructor <;> omega
  unfold doW
  split
  · exact hx
  split
  · exact hx
  · exact eff_bd ht hb k id _ (more_bd ht _ k id)
set_option maxRecDepth 100000 in
set_option maxHeartbeats 4000000 in
theorem do_any' {N gw b0 o0 c0 b1 o1 c1 : Nat} {ws cs : List Int} {cap : Int} {x : Wk} {w : World} (h : WV N gw b0 o0 c0 b1 o1 c1 ws cs cap x w) (k : Int) (id : Nat) (hk : OkI cs.length k id) (ht : Rt ws cs) (t : Nat) (hb : BdW t x) (htt : t ≤ 65536) :
    Calls Try.prog 26 #[.pointer (some ⟨gw, 0, none⟩), .agg #[.int .i64 k, .int .i64 (id : Int)]] w (DoP N gw b0 o0 c0 b1 o1 c1 ws cs cap (doW x ws cs cap k id) w) := by
  obtain ⟨W, hW⟩ : ∃ W, W = w.alloc (.cells #[.int .i64 k, .int .i64 (id : Int)] 63) := ⟨_, rfl⟩
  have hI : EfI N gw b0 o0 c0 b1 o1 c1 ws cs cap w k id x W := by
    have hbW : Below w.heap.size w W := by rw [hW]; exact (Below.refl _ _).alloc (Nat.le_refl _) _
    exact ⟨h.below hbW, by rw [hW]; exact Blk.new _ _ _, Frm.of_below hbW, h.lt⟩
  have bd := hb.dn
  have be := hb.wd
  have bf := hb.pk
  have hmo := more_bd ht cs.length k id
  have HMY := Lib.hid (may_any hI.wv k id hk ht.hi bd.1 (by omega))
  have HMO := Lib.hid fun w1 (hb1 : Below W.heap.size W w1) => more_any (hI.wv.below hb1) k id hk ht.hi ht.len
  have HBI : Hid (∀ w1, Below W.heap.size W w1 → EfI N gw b0 o0 c0 b1 o1 c1 ws cs cap w k id x w1) := Lib.hid fun w1 hb1 => ⟨hI.wv.below hb1, hI.bx.below hb1 hI.bx.lt, hI.fr.thenBelow hb1, hI.gl⟩
  have HEF : Hid (∀ wr, EfI N gw b0 o0 c0 b1 o1 c1 ws cs cap w k id (addW x (moreI ws cs.length k id)) wr → Calls Try.prog 42 #[.pointer (some ⟨gw, 0, none⟩), .agg #[.int .i64 k, .int .i64 (id : Int)]] wr fun e w' => e = .returned (.tuple #[]) ∧ WV N gw b0 o0 c0 b1 o1 c1 ws cs cap (effW (addW x (moreI ws cs.length k id)) ws cs k id) w' ∧ Frm [some gw] w w') := Lib.hid fun wr hr => by
    have hc := hb.ct
    refine (eff_any hr.wv k id hk ht ?_ ?_ ?_ ?_ ?_ ?_).mono fun e w' he => ⟨he.ret, he.wv, hr.fr.trans he.fr⟩ <;> simp only [addW] <;> omega
  have HX := Lib.hid (show doW x ws cs cap k id = if mayB x cs.length k id = false then (x, 24) else if cap < x.wd + moreI ws cs.length k id then (x, 25) else (effW (addW x (moreI ws cs.length k id)) ws cs k id, 0) from rfl)
  have HAD := Lib.hid (show addW x (moreI ws cs.length k id) = { x with wd := x.wd + moreI ws cs.length k id, pk := max x.pk (x.wd + moreI ws cs.length k id) } from rfl)
  have e0 := hI.e0
  have e1 := hI.e1
  have HW := Lib.hid hW
  clear h hk ht hb hI hW
  generalize doW x ws cs cap k id = R at *
  generalize effW (addW x (moreI ws cs.length k id)) ws cs k id = XE at *
  generalize addW x (moreI ws cs.length k id) = XA at *
  generalize moreI ws cs.length k id = MO at *
  cases hmy : mayB x cs.length k id with
  | false =>
    rw [hmy] at HMY HX
    have HX := Lib.hid (HX.out.trans (if_pos rfl))
    clear hmy
    go_enter Try.func26, Try.ntmps26
    go_wp2_with (go_at_call 40; rw [← HW.out]; refine HMY.out.mono ?_; rintro e w1 ⟨rfl, hb1⟩; have HI1 := Lib.hid (HBI.out w1 hb1); clear hb1)
    go_ret
    rw [HX.out]
    exact ⟨rfl, HI1.out.wv, HI1.out.fr⟩
  | true =>
    rw [hmy] at HMY HX
    have HX := Lib.hid (HX.out.trans (if_neg (by decide)))
    clear hmy
    by_cases hc : cap < x.wd + MO
    · have HX := Lib.hid (HX.out.trans (if_pos hc))
      go_enter Try.func26, Try.ntmps26
      go_wp2_with (first | (go_at_call 40; rw [← HW.out]; refine HMY.out.mono ?_; rintro e w1 ⟨rfl, hb1⟩; have hI1 := HBI.out w1 hb1; have e0 := hI1.e0; have e1 := hI1.e1; have HB1 := Lib.hid hb1; clear hb1 hI1) | (go_at_call 41; refine (HMO.out w1 HB1.out).mono ?_; rintro e w2 ⟨rfl, hb2⟩; have hb3 := HB1.out.trans (hb2.mono HB1.out.size); have hI2 := HBI.out w2 hb3; have c2 := hI2.wv.k2; have cw := hI2.wv.kwd; have HI2 := Lib.hid hI2; clear hb2 hb3 hI2))
      go_quiet (fail)
      go_wp2_with fail
      go_ret
      rw [HX.out]
      exact ⟨rfl, (HI2.out.wv.below ⟨rfl, rfl, rfl, Nat.le_refl _, fun _ _ => rfl⟩ : WV N gw b0 o0 c0 b1 o1 c1 ws cs cap x (w2.drewN nq)), HI2.out.fr.drewN nq⟩
    · have HX := Lib.hid (HX.out.trans (if_neg hc))
      go_enter Try.func26, Try.ntmps26
      go_wp2_with (first | (go_at_call 40; rw [← HW.out]; refine HMY.out.mono ?_; rintro e w1 ⟨rfl, hb1⟩; have hI1 := HBI.out w1 hb1; have e0 := hI1.e0; have e1 := hI1.e1; have HB1 := Lib.hid hb1; clear hb1 hI1) | (go_at_call 41; refine (HMO.out w1 HB1.out).mono ?_; rintro e w2 ⟨rfl, hb2⟩; have hb3 := HB1.out.trans (hb2.mono HB1.out.size); have hI2 := HBI.out w2 hb3; have c2 := hI2.wv.k2; have cw := hI2.wv.kwd; have HI2 := Lib.hid hI2; clear hb2 hb3 hI2))
      go_quiet (fail)
      obtain ⟨w3, hw3⟩ : ∃ w3, w3 = w2.drewN nq := ⟨_, rfl⟩
      have hI3 : EfI N gw b0 o0 c0 b1 o1 c1 ws cs cap w k id x (w2.drewN nq) := ⟨(HI2.out.wv.below ⟨rfl, rfl, rfl, Nat.le_refl _, fun _ _ => rfl⟩ : WV N gw b0 o0 c0 b1 o1 c1 ws cs cap x (w2.drewN nq)), HI2.out.bx.drewN nq, HI2.out.fr.drewN nq, HI2.out.gl⟩
      rw [← hw3] at hI3
      have cw := hI3.wv.kwd
      have zw := hI3.wv.frozen 201
      have HI3 := Lib.hid hI3
      rw [← hw3]
      clear hw3 hI3 e0 e1 c2
      go_wp2_with fail
      obtain ⟨w4, hw4⟩ : ∃ w4, w4 = w3.setCell ⟨gw, 201, none⟩ (.int .i64 (x.wd + MO)) := ⟨_, rfl⟩
      have hI4 := HI3.out.set (HI3.out.wv.swd (x.wd + MO))
      rw [← hw4] at hI4 ⊢
      have r1 := hI4.wv.kpk
      have r2 := hI4.wv.kwd
      have rz := hI4.wv.frozen 203
      have HI4 := Lib.hid hI4
      clear hw4 hI4 cw zw
      simp only at r1 r2
      refine start_ (n := 13) (S := fun w' => w'.cell? ⟨gw, 203, none⟩ = some (.int .i64 x.pk) ∧ w'.cell? ⟨gw, 201, none⟩ = some (.int .i64 (x.wd + MO))) (ds := [12]) #[false, false, false, false, false, false, false, false, false, false, false, false, false] (by kernel_rfl) rfl rfl ⟨r1, r2⟩ (fun hHeld => ?_)
      refine pure_ (i := 0) (N := some 32) (v := ?_) (a' := ?_) #[true, false, false, false, false, false, false, false, false, false, false, false, false] rfl rfl (by kernel_rfl) (fun _ _ _ h => h) (Or.inl ⟨by rfl, ?_⟩) ?_ ?_
      rotate_left
      · intro w'
        go_simp
        with_reducible rfl
      rotate_left
      · simp only [Act.put, List.setIfInBounds_toArray, List.set_cons_zero, List.set_cons_succ, i64_w, i32_w]
        rfl
      refine pure_ (i := 1) (N := some 33) (v := ?_) (a' := ?_) #[true, true, false, false, false, false, false, false, false, false, false, false, false] rfl rfl (by kernel_rfl) (fun _ _ _ h => h) (Or.inl ⟨by rfl, ?_⟩) ?_ ?_
      rotate_left
      · intro w'
        go_simp
        with_reducible rfl
      rotate_left
      · simp only [Act.put, List.setIfInBounds_toArray, List.set_cons_zero, List.set_cons_succ, i64_w, i32_w]
        rfl
      refine pure_ (i := 2) (N := some 34) (v := ?_) (a' := ?_) #[true, true, true, false, false, false, false, false, false, false, false, false, false] rfl rfl (by kernel_rfl) (fun _ _ _ h => h) (Or.inl ⟨by rfl, ?_⟩) ?_ ?_
      rotate_left
      · intro w'
        go_simp
        with_reducible rfl
      rotate_left
      · simp only [Act.put, List.setIfInBounds_toArray, List.set_cons_zero, List.set_cons_succ, i64_w, i32_w]
        rfl
      refine pure_ (i := 3) (N := some 35) (v := ?_) (a' := ?_) #[true, true, true, true, false, false, false, false, false, false, false, false, false] rfl rfl (by kernel_rfl) (fun _ _ _ h => h) (Or.inl ⟨by rfl, ?_⟩) ?_ ?_
      rotate_left
      · intro w'
        go_simp
        with_reducible rfl
      rotate_left
      · simp only [Act.put, List.setIfInBounds_toArray, List.set_cons_zero, List.set_cons_succ, i64_w, i32_w]
        rfl
      refine pure_ (i := 5) (N := some 37) (v := ?_) (a' := ?_) #[true, true, true, true, false, true, false, false, false, false, false, false, false] rfl rfl (by kernel_rfl) (fun _ _ _ h => h) (Or.inl ⟨by rfl, ?_⟩) ?_ ?_
      rotate_left
      · intro w'
        go_simp
        with_reducible rfl
      rotate_left
      · simp only [Act.put, List.setIfInBounds_toArray, List.set_cons_zero, List.set_cons_succ, i64_w, i32_w]
        rfl
      refine pure_ (i := 6) (N := some 38) (v := ?_) (a' := ?_) #[true, true, true, true, false, true, true, false, false, false, false, false, false] rfl rfl (by kernel_rfl) (fun _ _ _ h => h) (Or.inl ⟨by rfl, ?_⟩) ?_ ?_
      rotate_left
      · intro w'
        go_simp
        with_reducible rfl
      rotate_left
      · simp only [Act.put, List.setIfInBounds_toArray, List.set_cons_zero, List.set_cons_succ, i64_w, i32_w]
        rfl
      refine pure_ (i := 7) (N := some 39) (v := ?_) (a' := ?_) #[true, true, true, true, false, true, true, true, false, false, false, false, false] rfl rfl (by kernel_rfl) (fun _ _ _ h => h) (Or.inl ⟨by rfl, ?_⟩) ?_ ?_
      rotate_left
      · intro w'
        go_simp
        with_reducible rfl
      rotate_left
      · simp only [Act.put, List.setIfInBounds_toArray, List.set_cons_zero, List.set_cons_succ, i64_w, i32_w]
        rfl
      refine take_ (i := 4) (N := some 36) (v := ?_) (a' := ?_) #[true, true, true, true, true, true, true, true, false, false, false, false, false] rfl rfl (by kernel_rfl) (fun _ _ _ h => h) (Or.inl ⟨by rfl, ?_⟩) hHeld ?_ ?_
      rotate_left
      · rintro w' ⟨s0, s1⟩
        go_simp
        with_reducible rfl
      rotate_left
      · simp only [Act.put, List.setIfInBounds_toArray, List.set_cons_zero, List.set_cons_succ, i64_w, i32_w]
        rfl
      refine take_ (i := 8) (N := some 40) (v := ?_) (a' := ?_) #[true, true, true, true, true, true, true, true, true, false, false, false, false] rfl rfl (by kernel_rfl) (fun _ _ _ h => h) (Or.inl ⟨by rfl, ?_⟩) hHeld ?_ ?_
      rotate_left
      · rintro w' ⟨s0, s1⟩
        go_simp
        with_reducible rfl
      rotate_left
      · simp only [Act.put, List.setIfInBounds_toArray, List.set_cons_zero, List.set_cons_succ, i64_w, i32_w]
        rfl
      refine pure_ (i := 9) (N := some 41) (v := ?_) (a' := ?_) #[true, true, true, true, true, true, true, true, true, true, false, false, false] rfl rfl (by kernel_rfl) (fun _ _ _ h => h) (Or.inl ⟨by rfl, ?_⟩) ?_ ?_
      rotate_left
      · intro w'
        go_simp
        with_reducible rfl
      rotate_left
      · simp only [Act.put, List.setIfInBounds_toArray, List.set_cons_zero, List.set_cons_succ, i64_w, i32_w]
        rfl
      refine pure_ (i := 10) (N := some 42) (v := ?_) (a' := ?_) #[true, true, true, true, true, true, true, true, true, true, true, false, false] rfl rfl (by kernel_rfl) (fun _ _ _ h => h) (Or.inl ⟨by rfl, ?_⟩) ?_ ?_
      rotate_left
      · intro w'
        go_simp
        with_reducible rfl
      rotate_left
      · simp only [Act.put, List.setIfInBounds_toArray, List.set_cons_zero, List.set_cons_succ, i64_w, i32_w]
        rfl
      refine pure_ (i := 11) (N := some 43) (v := ?_) (a' := ?_) #[true, true, true, true, true, true, true, true, true, true, true, true, false] rfl rfl (by kernel_rfl) (fun _ _ _ h => h) (Or.inl ⟨by rfl, ?_⟩) ?_ ?_
      rotate_left
      · intro w'
        go_simp
        with_reducible rfl
      rotate_left
      · simp only [Act.put, List.setIfInBounds_toArray, List.set_cons_zero, List.set_cons_succ, i64_w, i32_w]
        rfl
      refine last_ (i := 12) (N := none) #[true, true, true, true, true, true, true, true, true, true, true, true, true] rfl rfl (by kernel_rfl) (by decide) (fun K hK => ?_)
      refine skip_ (w1 := ?_) (by rfl) rfl ?_ ?_
      rotate_left
      · go_simp
        rfl
      refine hK.out _ _ ?_
      clear hK K
      refine done_ (by kernel_rfl) ?_
      rw [show (if x.pk < x.wd + MO then x.wd + MO else x.pk) = max x.pk (x.wd + MO) by split <;> omega]
      obtain ⟨w5, hw5⟩ : ∃ w5, w5 = (w4.setCell ⟨gw, 203, none⟩ (.int .i64 (max x.pk (x.wd + MO)))).drew := ⟨_, rfl⟩
      have hI5 := (HI4.out.set (HI4.out.wv.spk (max x.pk (x.wd + MO)))).drew
      rw [← hw5] at hI5 ⊢
      have hI6 : EfI N gw b0 o0 c0 b1 o1 c1 ws cs cap w k id XA w5 := by rw [HAD.out]; exact hI5
      have e0 := hI6.e0
      have e1 := hI6.e1
      have HI6 := Lib.hid hI6
      clear hw5 hI5 hI6 r1 r2 rz hHeld
      go_wp2_with (go_at_call 42; refine (HEF.out _ HI6.out).mono ?_; rintro e w6 ⟨rfl, hw6, hf6⟩; have HW6 := Lib.hid (And.intro hw6 hf6); clear hw6 hf6)
      go_ret
      rw [HX.out]
      exact ⟨rfl, HW6.out.1, HW6.out.2⟩
end Go.Proofs.Ytiejdbdbafmccaa
/- part ChWalk -/
namespace Go.Proofs.Ytiejdbdbafmccaa.PCh
open Go.RowKit Go.Proofs.YtiejdbdbafmccaaW.PrintWords Go.Proofs.YtiejdbdbafmccaaW.PrintLast Go.Proofs.Ytiejdbdbafmccaa
def wk0 : Wk := ⟨fun _ => false, fun _ => false, fun _ => false, false, false, 0, 0, 0, 0⟩
def runW (ws cs : List Int) (cap : Int) : List S63 → Wk → Wk × Int
  | [], x => (x, 0)
  | i :: r, x => if (doW x ws cs cap i.f0 i.f1.toNat).2 = 0 then runW ws cs cap r (doW x ws cs cap i.f0 i.f1.toNat).1 else doW x ws cs cap i.f0 i.f1.toNat
theorem runW_nil (ws cs : List Int) (cap : Int) (x : Wk) : runW ws cs cap [] x = (x, 0) := rfl
theorem runW_cons (ws cs : List Int) (cap : Int) (i : S63) (r : List S63) (x : Wk) : runW ws cs cap (i :: r) x = if (doW x ws cs cap i.f0 i.f1.toNat).2 = 0 then runW ws cs cap r (doW x ws cs cap i.f0 i.f1.toNat).1 else doW x ws cs cap i.f0 i.f1.toNat := rfl
def endW (n : Nat) (r : Wk × Int) : Int × Int × Int := if r.2 ≠ 0 then (0, 0, r.2) else if r.1.em = false ∨ r.1.dn < n then (0, 0, 28) else (r.1.ct, r.1.pk, 0)
def walkF (ws cs : List Int) (cap : Int) (p : List S63) : Int × Int × Int := if fitsB ws cs p = false then (0, 0, 10) else endW cs.length (runW ws cs cap p wk0)
def chain_Chain_Walk.f (l0_0 l0_1 : List Int) (a1 : Int) (l2 : List S63) : Option (Int × Int × Int) := some (walkF l0_0 l0_1 a1 l2)
def wkcells (v0 v1 : Value) (cap : Int) : Array Value := ((List.range 204).map (wk0.at v0 v1 cap)).toArray
theorem info_KT : (Try.prog.info? 70).map (fun i => i.zero) = some (some (.agg (wkcells (.slice none 0 0) (.slice none 0 0) 0))) := by kernel_rfl
theorem zero_kt (w : World) : (zeroValue 70).run Try.prog w = .ok (.agg (wkcells (.slice none 0 0) (.slice none 0 0) 0)) w := by
  cases h : Try.prog.info? 70 with
  | none => have := info_KT; rw [h] at this; cases this
  | some i =>
    have e := info_KT
    rw [h] at e
    simp only [Option.map_some, Option.some.injEq] at e
    exact zero_of_info _ h e
theorem fits_ok {ws cs : List Int} {p : List S63} (h : fitsB ws cs p = true) : Rt ws cs ∧ p.length ≤ 65536 ∧ ∀ x ∈ p, 0 ≤ x.f1 ∧ OkI cs.length x.f0 x.f1.toNat := by
  unfold fitsB at h
  simp only [Bool.and_eq_true, decide_eq_true_eq, Bool.not_eq_true'] at h
  obtain ⟨h1, h2, h3⟩ := h
  unfold ckE at h2
  have hl : ¬ 65536 < p.length := fun hh => by rw [if_pos hh] at h2; cases h2
  rw [if_neg hl] at h2
  have hb : p.any badI = false := by
    cases hb : p.any badI with
    | false => rfl
    | true => rw [hb, if_pos rfl] at h2; cases h2
  refine ⟨rt_of_right h1, by omega, fun x hx => ?_⟩
  have q1 := List.any_eq_false.1 hb x hx
  have q2 := List.any_eq_false.1 h3 x hx
  have q3 : instrB x.f0 x.f1 = true := by
    cases hq : instrB x.f0 x.f1 with
    | true => rfl
    | false => exact absurd (by simp [badI, hq]) q1
  have q4 : x.f1 ≤ (cs.length : Int) := by
    simp [overI] at q2
    omega
  unfold instrB at q3
  split at q3
  · have q5 := of_decide_eq_true q3
    exact ⟨by omega, ⟨by omega, fun a b => by omega, by omega⟩⟩
  · split at q3
    · have q5 := of_decide_eq_true q3
      exact ⟨by omega, ⟨by omega, fun a b => by omega, by omega⟩⟩
    · cases q3
structure WkI (N gw b0 o0 c0 b1 o1 c1 : Nat) (ws cs : List Int) (cap : Int) (W : World) (p : List S63) (j : Nat) (x : Wk) (wr : World) : Prop where
  wv : WV N gw b0 o0 c0 b1 o1 c1 ws cs cap x wr
  bl : Below N W wr
  eq : runW ws cs cap p wk0 = runW ws cs cap (p.drop j) x
  bd : BdW j x
theorem wk_start {N gw b0 o0 c0 b1 o1 c1 : Nat} {ws cs : List Int} {cap : Int} {w1 : World} {Z : Array Value} (hZ : Z = wkcells (.slice none 0 0) (.slice none 0 0) 0) (hgw : gw = w1.heap.size) (hb : (b0 < N ∧ b1 < N) ∧ N ≤ gw)
    (h0 : ∀ i, i < ws.length → w1.cell? ⟨b0, o0 + i, none⟩ = some (.int .i64 (ws.getD i 0))) (h1 : ∀ i, i < cs.length → w1.cell? ⟨b1, o1 + i, none⟩ = some (.int .i64 (cs.getD i 0))) :
    WV N gw b0 o0 c0 b1 o1 c1 ws cs cap wk0 (w1.alloc (.cells (((Z.setIfInBounds 0 (.slice (some ⟨b0, o0, none⟩) ws.length c0)).setIfInBounds 1 (.slice (some ⟨b1, o1, none⟩) cs.length c1)).setIfInBounds 2 (.int .i64 cap)) 70)) := by
  have hbb : Below w1.heap.size w1 (w1.alloc (.cells (((Z.setIfInBounds 0 (.slice (some ⟨b0, o0, none⟩) ws.length c0)).setIfInBounds 1 (.slice (some ⟨b1, o1, none⟩) cs.length c1)).setIfInBounds 2 (.int .i64 cap)) 70)) := (Below.refl _ _).alloc (Nat.le_refl _) _
  have hzs : Z.size = 204 := by rw [hZ]; simp [wkcells]
  have hc : ∀ (b o : Nat) (v : Value), w1.cell? ⟨b, o, none⟩ = some v → _ := fun b o v hv => (hbb.cell (p := ⟨b, o, none⟩) (World.block_lt_of_cell? w1 _ hv)).trans hv
  refine ⟨⟨_, by rw [hgw]; exact Blk.new _ _ _, by simpa using hzs, fun i hi => ?_⟩, fun i hi => hc _ _ _ (h0 i hi), fun i hi => hc _ _ _ (h1 i hi), hb⟩
  have hz : Z[i]? = some (wk0.at (.slice none 0 0) (.slice none 0 0) 0 i) := by rw [hZ]; simp [wkcells, hi]
  by_cases i0 : i = 0
  · subst i0; simp [hzs, Wk.at]
  by_cases i1 : i = 1
  · subst i1; simp [hzs, Wk.at]
  by_cases i2 : i = 2
  · subst i2; simp [hzs, Wk.at]
  rw [Array.getElem?_setIfInBounds_ne (fun e => i2 e.symm), Array.getElem?_setIfInBounds_ne (fun e => i1 e.symm), Array.getElem?_setIfInBounds_ne (fun e => i0 e.symm), hz]
  simp only [Wk.at, i0, i1, i2, if_false]
set_option maxRecDepth 100000 in
set_option maxHeartbeats 4000000 in
theorem chain_Chain_Walk.calls (A0_0 : Option Addr) (c0_0 : Nat) (l0_0 : List Int) (A0_1 : Option Addr) (c0_1 : Nat) (l0_1 : List Int) (a1 : Int) (A2 : Option Addr) (c2 : Nat) (l2 : List S63) (r1 r2 r3 : Int) (w : World) (hr0_0 : Kd.C (Kd.int .i64) w A0_0 l0_0.length l0_0) (hc0_0 : l0_0.length ≤ c0_0) (hr0_1 : Kd.C (Kd.int .i64) w A0_1 l0_1.length l0_1) (hc0_1 : l0_1.length ≤ c0_1) (hr2 : Kd.C k63 w A2 l2.length l2) (hc2 : l2.length ≤ c2) (h : chain_Chain_Walk.f l0_0 l0_1 a1 l2 = some (r1, r2, r3)) :
    Calls Try.prog 13 #[.agg #[.slice A0_0 l0_0.length c0_0, .slice A0_1 l0_1.length c0_1], .int .i64 a1, .slice A2 l2.length c2] w fun e w' => e = .returned (.tuple #[.int .i64 r1, .int .i64 r2, .int .i64 r3]) ∧ Below w.heap.size w w' := by
  unfold chain_Chain_Walk.f at h
  injection h with h
  obtain ⟨W, hW⟩ : ∃ W, W = w.alloc (.cells #[.slice A0_0 l0_0.length c0_0, .slice A0_1 l0_1.length c0_1] 24) := ⟨_, rfl⟩
  have hb : Below w.heap.size w W := by rw [hW]; exact (Below.refl _ _).alloc (Nat.le_refl _) _
  have hP : Blk W w.heap.size 24 #[.slice A0_0 l0_0.length c0_0, .slice A0_1 l0_1.length c0_1] := by rw [hW]; exact Blk.new _ _ _
  have HFI := Lib.hid (fits_any A0_0 c0_0 l0_0 A0_1 c0_1 l0_1 A2 c2 l2 W (Kd.C_below hr0_0 hb) hc0_0 (Kd.C_below hr0_1 hb) hc0_1 (Kd.C_below hr2 hb))
  have HC0 := Lib.hid (Kd.C_below hr0_0 hb)
  have HC1 := Lib.hid (Kd.C_below hr0_1 hb)
  have HC2 := Lib.hid (Kd.C_below hr2 hb)
  have m2 := hr2.2.1
  have m1 := hr0_1.2.1
  have p0 := hP.cell 0
  have p1 := hP.cell 1
  simp only [List.getElem?_toArray, List.getElem?_cons_zero, List.getElem?_cons_succ] at p0 p1
  have HP := Lib.hid hP
  have HB := Lib.hid hb
  have HW := Lib.hid hW
  clear hr0_0 hc0_0 hr0_1 hc0_1 hb hP hW hr2 hc2
  cases hf : fitsB l0_0 l0_1 l2 with
  | false =>
    rw [hf] at HFI
    unfold walkF at h
    rw [if_pos hf] at h
    injection h with e1 h
    injection h with e2 e3
    subst e1 e2 e3
    clear hf
    go_enter Try.func13, Try.ntmps13
    go_wp2_with (go_at_call 25; rw [← HW.out]; refine HFI.out.mono ?_; rintro e w1 ⟨rfl, hbl⟩; have HB1 := Lib.hid (HB.out.trans (hbl.mono HB.out.size)); clear hbl)
    go_ret3
    exact ⟨rfl, HB1.out⟩
  | true =>
    rw [hf] at HFI
    obtain ⟨ht, hl, hok⟩ := fits_ok hf
    have HX : Hid (endW l0_1.length (runW l0_0 l0_1 a1 l2 wk0) = (r1, r2, r3)) := Lib.hid (by rw [← h]; unfold walkF; rw [if_neg (by rw [hf]; decide)])
    obtain ⟨b0, o0, e0, hb0, hx0⟩ := C_at HC0.out (by rw [ht.len]; omega)
    obtain ⟨b1, o1, e1, hb1, hx1⟩ := C_at HC1.out (by have := ht.lo; omega)
    subst e0
    subst e1
    obtain ⟨Z, hZ⟩ : ∃ Z, Z = wkcells (.slice none 0 0) (.slice none 0 0) 0 := ⟨_, rfl⟩
    have hzv : ∀ w, (zeroValue 70).run Try.prog w = .ok (.agg Z) w := by rw [hZ]; exact zero_kt
    have hzs : Z.size = 204 := by rw [hZ]; simp [wkcells]
    have HZ := Lib.hid hZ
    have HT := Lib.hid ht
    have HL := Lib.hid hl
    have HOK := Lib.hid hok
    have HX0 := Lib.hid hx0
    have HX1 := Lib.hid hx1
    have HBB := Lib.hid (And.intro hb0 hb1)
    clear hZ ht hl hok hf h hx0 hx1 hb0 hb1
    go_enter Try.func13, Try.ntmps13
    go_wp2_with (go_at_call 25; rw [← HW.out]; refine HFI.out.mono ?_; rintro e w1 ⟨rfl, hbl⟩; have hP1 := HP.out.below hbl HP.out.lt; have p0 := hP1.cell 0; have p1 := hP1.cell 1; simp only [List.getElem?_toArray, List.getElem?_cons_zero, List.getElem?_cons_succ] at p0 p1; have HP1 := Lib.hid hP1; have HB1 := Lib.hid hbl; clear hbl hP1)
    have HST : Hid (WkI W.heap.size w1.heap.size b0 o0 c0_0 b1 o1 c0_1 l0_0 l0_1 a1 W l2 0 wk0 (w1.alloc (.cells (((Z.setIfInBounds 0 (.slice (some ⟨b0, o0, none⟩) l0_0.length c0_0)).setIfInBounds 1 (.slice (some ⟨b1, o1, none⟩) l0_1.length c0_1)).setIfInBounds 2 (.int .i64 a1)) 70))) := Lib.hid (by
      have hbb := HBB.out
      refine ⟨wk_start HZ.out rfl ⟨hbb, HB1.out.size⟩ (fun i hi => ?_) (fun i hi => ?_), HB1.out.alloc HB1.out.size _, rfl, ⟨by simp [wk0], by simp [wk0], by simp [wk0], by simp [wk0]⟩⟩
      · rw [(HB1.out.cell (p := ⟨b0, o0 + i, none⟩) hbb.1).trans (HX0.out i hi)]; simp [hi]
      · rw [(HB1.out.cell (p := ⟨b1, o1 + i, none⟩) hbb.2).trans (HX1.out i hi)]; simp [hi])
    have HG := Lib.hid HB1.out.size
    clear hzv hzs p0 p1
    go_loopw [23] (fun i wr => ∃ (j : Nat) (x : Wk), j ≤ l2.length ∧ i = .int .i64 j ∧ WkI W.heap.size w1.heap.size b0 o0 c0_0 b1 o1 c0_1 l0_0 l0_1 a1 W l2 j x wr) (fun i _ => l2.length - (intOf i).toNat)
    case atStart => exact ⟨0, wk0, Nat.zero_le _, rfl, HST.out⟩
    case round =>
      obtain ⟨j, x, hj, rfl, hI⟩ := hrel
      clear HST
      by_cases hlt : j < l2.length
      · obtain ⟨b, o, rfl, hbk, hc⟩ := C2_at HC2.out (by omega)
        have hck := hc j hlt
        have h0 := (hI.bl.cell (p := ⟨b, o + j * 2, none⟩) hbk).trans hck.1
        have h1 := (hI.bl.cell (p := ⟨b, o + j * 2 + 1, none⟩) hbk).trans hck.2
        have hok := HOK.out l2[j] (List.getElem_mem hlt)
        have hdr : l2.drop j = l2[j] :: l2.drop (j + 1) := List.drop_eq_getElem_cons hlt
        have heq := hI.eq
        rw [hdr] at heq
        have hwa := hI.wv.below ((Below.refl _ _).alloc (Nat.le_refl _) (.cells #[.int .i64 l2[j].f0, .int .i64 l2[j].f1] 63))
        have hdo := do_any' hwa l2[j].f0 l2[j].f1.toNat hok.2 HT.out j hI.bd (by have := HL.out; omega)
        have hbd := do_bd HT.out hI.bd a1 l2[j].f0 l2[j].f1.toNat
        rw [show ((l2[j].f1.toNat : Nat) : Int) = l2[j].f1 from by have := hok.1; omega] at hdo
        have hbw := hI.bl.alloc hI.bl.size (.cells #[.int .i64 l2[j].f0, .int .i64 l2[j].f1] 63)
        clear hc hck hok hdr hwa
        rw [runW_cons] at heq
        generalize doW x l0_0 l0_1 a1 l2[j].f0 l2[j].f1.toNat = R at *
        generalize l2[j] = y at *
        obtain ⟨yk, yi⟩ := y
        obtain ⟨x2, E⟩ := R
        simp only at h0 h1 hdo heq hbd hbw
        have HDO := Lib.hid hdo
        have HBD := Lib.hid hbd
        have HBW := Lib.hid hbw
        clear hI hdo hbd hbw
        by_cases hE : E = 0
        · have HEQ := Lib.hid (heq.trans (if_pos hE))
          subst hE
          clear heq
          go_wp2_with (go_at_call 26; refine HDO.out.mono ?_; rintro e w2 ⟨rfl, hw2, hf2⟩; have HN : Hid (WkI W.heap.size w1.heap.size b0 o0 c0_0 b1 o1 c0_1 l0_0 l0_1 a1 W l2 (j + 1) x2 w2) := ⟨hw2, HBW.out.trans (hf2.below HBW.out.size (fun q hq => by simp at hq; subst hq; exact HG.out)), HEQ.out, HBD.out⟩; clear hw2 hf2)
          go_roundw
          case rel => exact ⟨j + 1, x2, by omega, by go_num, HN.out⟩
          case measure => simp [intOf]; omega
        · have HEQ := Lib.hid (heq.trans (if_neg hE))
          have hEb : (E != 0) = true := by simpa using hE
          have HE := Lib.hid hE
          clear heq hE
          go_wp2_with (go_at_call 26; refine HDO.out.mono ?_; rintro e w2 ⟨rfl, hw2, hf2⟩; have HN : Hid (Below W.heap.size W w2) := HBW.out.trans (hf2.below HBW.out.size (fun q hq => by simp at hq; subst hq; exact HG.out)); clear hw2 hf2)
          go_ret3
          have hx := HX.out
          rw [HEQ.out] at hx
          unfold endW at hx
          rw [if_pos HE.out] at hx
          injection hx with e1 hx
          injection hx with e2 e3
          exact ⟨by rw [← e1, ← e2, ← e3]; rfl, HB.out.trans (HN.out.mono HB.out.size)⟩
      · obtain rfl : j = l2.length := by omega
        have heq := hI.eq
        rw [List.drop_length] at heq
        rw [runW_nil] at heq
        have hx := HX.out
        rw [heq] at hx
        unfold endW at hx
        rw [if_neg (by simp)] at hx
        simp only at hx
        have q1 := hI.wv.kem
        have q2 := hI.wv.kdn
        have q3 := hI.wv.kct
        have q4 := hI.wv.kpk
        have hPr := HP.out.below hI.bl HP.out.lt
        have p1 := hPr.cell 1
        simp only [List.getElem?_toArray, List.getElem?_cons_zero, List.getElem?_cons_succ] at p1
        have HBL := Lib.hid hI.bl
        have hdn := hI.bd.dn
        clear hI heq hPr hlt
        cases hem : x.em with
        | false =>
          rw [hem] at q1 hx
          rw [if_pos (Or.inl rfl)] at hx
          have HXX := Lib.hid hx
          clear hx hem
          go_wp2_with fail
          go_quiet (fail)
          go_wp2_with fail
          go_ret3
          have hx := HXX.out
          injection hx with e1 hx
          injection hx with e2 e3
          exact ⟨by rw [← e1, ← e2, ← e3]; rfl, HB.out.trans ((⟨HBL.out.os, HBL.out.tape, HBL.out.output, HBL.out.size, HBL.out.block⟩ : Below W.heap.size W (wr.drewN nq)).mono HB.out.size)⟩
        | true =>
          rw [hem] at q1 hx
          clear hem
          by_cases hd : x.dn < (l0_1.length : Int)
          · rw [if_pos (Or.inr hd)] at hx
            have HXX := Lib.hid hx
            clear hx
            go_wp2_with fail
            go_quiet (fail)
            go_wp2_with fail
            go_ret3
            have hx := HXX.out
            injection hx with e1 hx
            injection hx with e2 e3
            exact ⟨by rw [← e1, ← e2, ← e3]; rfl, HB.out.trans ((⟨HBL.out.os, HBL.out.tape, HBL.out.output, HBL.out.size, HBL.out.block⟩ : Below W.heap.size W (wr.drewN nq)).mono HB.out.size)⟩
          · rw [if_neg (fun hh => hh.elim (fun e => by cases e) hd)] at hx
            have hdb : decide (x.dn < (l0_1.length : Int)) = false := decide_eq_false hd
            have HXX := Lib.hid hx
            clear hx hd
            go_wp2_with fail
            go_quiet (fail)
            go_wp2_with fail
            go_quiet (fail)
            go_wp2_with fail
            go_ret3
            have hx := HXX.out
            injection hx with e1 hx
            injection hx with e2 e3
            refine ⟨by rw [← e1, ← e2, ← e3]; rfl, HB.out.trans (Below.mono (B := W.heap.size) ?_ HB.out.size)⟩
            exact ⟨HBL.out.os, HBL.out.tape, HBL.out.output, HBL.out.size, HBL.out.block⟩
end Go.Proofs.Ytiejdbdbafmccaa.PCh
/- part PChx4 -/
namespace Go.Proofs.Ytiejdbdbafmccaa.PCh
open Go.RowKit Go.Proofs.YtiejdbdbafmccaaW.PrintWords Go.Proofs.YtiejdbdbafmccaaW.PrintLast Go.Proofs.YtiejdbdbafmccaaW.PrintMore
attribute [local go_sem] max2_int min2_int max_two min_two max_three min_three max_four min_four
set_option linter.unusedVariables false
set_option linter.unusedSimpArgs false
def chain_Chain_Lowest.l0 : Nat → Int → Int → List Int → List Int → Option (Int × Int)
  | 0, _, _, _, _ => none
  | k + 1, x4, x5, x108000, x108001 => if x4 < x5 then ((chain_Chain_Least.f x108000 x108001 (wrap64 (Int.tdiv (wrap64 (x4 + x5)) 2))).bind fun bt111 => (if bt111.2 = 0 then (chain_Chain_Lowest.l0 k x4 (wrap64 (Int.tdiv (wrap64 (x4 + x5)) 2)) x108000 x108001) else (chain_Chain_Lowest.l0 k (wrap64 ((wrap64 (Int.tdiv (wrap64 (x4 + x5)) 2)) + 1)) x5 x108000 x108001))) else (some (x4, 0))
def chain_Chain_Lowest.f (k : Nat) (l0_0 : List Int) (l0_1 : List Int) : Option (Int × Int) := (chain_Chain_Right.f l0_0 l0_1).bind fun t108 => (if t108 = true then ((chain_Chain_Least.f l0_0 l0_1 4096).bind fun bt109 => (if bt109.2 = 0 then (chain_Chain_Lowest.l0 k 0 4096 l0_0 l0_1) else (some (0, bt109.2)))) else (some (0, 10)))
theorem chain_Chain_Lowest.mono_l : ∀ k, (∀ y0 y1 y2 y3, LeO (chain_Chain_Lowest.l0 k y0 y1 y2 y3) (chain_Chain_Lowest.l0 (k + 1) y0 y1 y2 y3))
  | 0 => fun _ _ _ _ r h => by simp [chain_Chain_Lowest.l0] at h
  | k + 1 => by
    have ih0 := chain_Chain_Lowest.mono_l k
    · intro y0 y1 y2 y3
      unfold chain_Chain_Lowest.l0
      repeat' first
      | (with_reducible exact ih0 _ _ _ _)
      | (with_reducible exact LeO.refl _)
      | (with_reducible exact LeO.none _)
      | (with_reducible refine LeO.ite ?_ ?_)
      | (with_reducible refine LeO.bind ?_ (fun _ => ?_))
      | exact ih0 _ _ _ _
      | exact LeO.none _
      | refine LeO.ite ?_ ?_
      | refine LeO.bind ?_ (fun _ => ?_)
theorem chain_Chain_Lowest.mono : ∀ a0 a1 k, LeO (chain_Chain_Lowest.f k a0 a1) (chain_Chain_Lowest.f (k + 1) a0 a1) := by
  intro a0 a1 k
  have ih0 := chain_Chain_Lowest.mono_l k
  unfold chain_Chain_Lowest.f
  repeat' first
      | (with_reducible exact ih0 _ _ _ _)
      | (with_reducible exact LeO.refl _)
      | (with_reducible exact LeO.none _)
      | (with_reducible refine LeO.ite ?_ ?_)
      | (with_reducible refine LeO.bind ?_ (fun _ => ?_))
      | exact ih0 _ _ _ _
      | exact LeO.none _
      | refine LeO.ite ?_ ?_
      | refine LeO.bind ?_ (fun _ => ?_)
set_option maxHeartbeats 8000000 in
set_option maxRecDepth 100000 in
theorem chain_Chain_Lowest.calls (k : Nat) (A0_0 : Option Addr) (c0_0 : Nat) (l0_0 : List Int) (A0_1 : Option Addr) (c0_1 : Nat) (l0_1 : List Int) (r1 : Int) (r2 : Int) (w : World) (hr0_0 : Kd.C (Kd.int .i64) w A0_0 l0_0.length l0_0) (hc0_0 : l0_0.length ≤ c0_0) (hr0_1 : Kd.C (Kd.int .i64) w A0_1 l0_1.length l0_1) (hc0_1 : l0_1.length ≤ c0_1) (h : chain_Chain_Lowest.f k l0_0 l0_1 = some (r1, r2)) :
    Calls Try.prog 16 #[.agg #[.slice A0_0 l0_0.length c0_0, .slice A0_1 l0_1.length c0_1]] w fun e w' => e = .returned (.tuple #[.int .i64 r1, .int .i64 r2]) ∧ Below w.heap.size w w' := by
  have hu24 := Try.underlying24
  have HR0_0 := Aside0.mk hr0_0
  have HC0_0 := Aside0.mk hc0_0
  clear hr0_0 hc0_0
  have HR0_1 := Aside0.mk hr0_1
  have HC0_1 := Aside0.mk hc0_1
  clear hr0_1 hc0_1
  have HB := Aside0.mk (Below.refl w.heap.size w)
  have H : ((chain_Chain_Right.f l0_0 l0_1).bind fun t108 => (if t108 = true then ((chain_Chain_Least.f l0_0 l0_1 4096).bind fun bt109 => (if bt109.2 = 0 then (chain_Chain_Lowest.l0 k 0 4096 l0_0 l0_1) else (some (0, bt109.2)))) else (some (0, 10)))) = some (r1, r2) := h
  clear h
  replace H := Option.bind_eq_some_iff.mp H
  obtain ⟨t108, A20, H⟩ := H
  replace H : (if t108 = true then ((chain_Chain_Least.f l0_0 l0_1 4096).bind fun bt109 => (if bt109.2 = 0 then (chain_Chain_Lowest.l0 k 0 4096 l0_0 l0_1) else (some (0, bt109.2)))) else (some (0, 10))) = some (r1, r2) := H
  have A2 := Aside0.mk A20
  clear A20
  by_cases c3 : t108 = true
  · subst c3
    have H1 : ((chain_Chain_Least.f l0_0 l0_1 4096).bind fun bt109 => (if bt109.2 = 0 then (chain_Chain_Lowest.l0 k 0 4096 l0_0 l0_1) else (some (0, bt109.2)))) = some (r1, r2) := by rw [if_pos rfl] at H; exact H
    clear H
    have H := H1
    clear H1
    replace H := Option.bind_eq_some_iff.mp H
    obtain ⟨⟨t109, t110⟩, A40, H⟩ := H
    replace H : (if t110 = 0 then (chain_Chain_Lowest.l0 k 0 4096 l0_0 l0_1) else (some (0, t110))) = some (r1, r2) := H
    have A4 := Aside0.mk A40
    clear A40
    by_cases c5 : t110 = 0
    · rw [if_pos c5] at H
      have c5b0 : (t110 == 0) = true := beq_iff_eq.mpr c5
      have c5b1 : (t110 != 0) = false := bne_eq_false_iff_eq.mpr c5
      clear c5
      have H' := Aside0.mk H
      clear H
      go_enter Try.func16, Try.ntmps16
      go_wp2_with (first | ((with_reducible refine gate_dst (N := 1) rfl ?_); refine box_event ?hg (N := 1) ?hd (cs := #[.slice A0_0 l0_0.length c0_0, .slice A0_1 l0_1.length c0_1]) (t := 24) ?hr ?_; (case hd => rfl); (case hg => rfl); (case hr => first | (go_simp; done) | (go_simp; rfl)); intro gb107 hg w6 hbox hb; have n0_ := Aside0.mk (below_step (by repeat (first | (with_reducible first | exact HB.out | apply below_alloc | apply pw_below_drewN | apply below_drew1) | exact HB.out)) hb); have n1_ := Aside0.mk (hbox); have n2_ := Aside0.mk ((by rw [hg]; exact (below_size (by repeat (first | (with_reducible first | exact HB.out | apply below_alloc | apply pw_below_drewN | apply below_drew1) | exact HB.out))) : w.heap.size ≤ gb107)); have n3_ := Aside0.mk ((by rw [hg]; exact (below_size (by repeat (first | (with_reducible first | exact HB.out | apply below_alloc | apply pw_below_drewN | apply below_drew1) | exact HB.out))) : w.heap.size ≤ gb107)); clear HB; have HB := n0_; have BK107 := n1_; have GW107 := n2_; have GE107 := n3_; clear n0_ n1_ n2_ n3_; clear hb hbox hg; have hcz7_0 : w6.cell? ⟨gb107, 0, none⟩ = some (.slice A0_0 l0_0.length c0_0) := (blk_cell BK107.out 0).trans rfl; have hcz7_1 : w6.cell? ⟨gb107, 1, none⟩ = some (.slice A0_1 l0_1.length c0_1) := (blk_cell BK107.out 1).trans rfl; have hfz7_0 := blk_frozen BK107.out 0; have hfz7_1 := blk_frozen BK107.out 1) | ((with_reducible refine gate_callee (f := 17) rfl ?_); refine goesL_ (some 12) rfl rfl Try.func17 (by kernel_rfl) rfl #[.agg #[.slice A0_0 l0_0.length c0_0, .slice A0_1 l0_1.length c0_1]] rfl (by (try simp only [List.map_toArray, List.map_cons, List.map_nil]); first | done | rfl | (simp only [List.length_drop, List.length_take]; rfl)) ?_; (with_reducible refine (chain_Chain_Right.calls _ _ l0_0 _ _ l0_1 true _ ?side1 ?side2 ?side3 ?side4 A2.out).mono ?_); (case side1 => repeat (first | exact (Kd.C_below HR0_0.out HB.out) | (with_reducible refine Kd.C_alloc ?_ _) | (with_reducible refine Kd.C_drewN ?_ _) | (with_reducible refine Kd.C_drew ?_))); (case side2 => exact HC0_0.out); (case side3 => repeat (first | exact (Kd.C_below HR0_1.out HB.out) | (with_reducible refine Kd.C_alloc ?_ _) | (with_reducible refine Kd.C_drewN ?_ _) | (with_reducible refine Kd.C_drew ?_))); (case side4 => exact HC0_1.out); rintro e w8 ⟨rfl, hb⟩; refine ⟨_, rfl, ?_⟩; have n0_ := Aside0.mk (blk_below (g := gb107) (o := .cells #[.slice A0_0 l0_0.length c0_0, .slice A0_1 l0_1.length c0_1] 24 (0, 0)) (by (with_reducible repeat (first | refine blk_drewN ?_ _ | refine blk_drew ?_ | refine blk_alloc ?_ _)); exact BK107.out) hb); have n1_ := Aside0.mk (below_step (by repeat (first | (with_reducible first | exact HB.out | apply below_alloc | apply pw_below_drewN | apply below_drew1 | refine below_set ?_ GE107.out) | exact HB.out)) hb); clear BK107; clear HB; have BK107 := n0_; have HB := n1_; clear n0_ n1_; (try clear hb); (try clear hb2); (try clear hk); (try clear hi); have hcz9_0 : w8.cell? ⟨gb107, 0, none⟩ = some (.slice A0_0 l0_0.length c0_0) := (blk_cell BK107.out 0).trans rfl; have hcz9_1 : w8.cell? ⟨gb107, 1, none⟩ = some (.slice A0_1 l0_1.length c0_1) := (blk_cell BK107.out 1).trans rfl; have hfz9_0 := blk_frozen BK107.out 0; have hfz9_1 := blk_frozen BK107.out 1) | ((with_reducible refine gate_callee (f := 10) rfl ?_); refine goesL_ (some 17) rfl rfl Try.func10 (by kernel_rfl) rfl #[.agg #[.slice A0_0 l0_0.length c0_0, .slice A0_1 l0_1.length c0_1], .int .i64 4096] rfl (by (try simp only [List.map_toArray, List.map_cons, List.map_nil]); first | done | rfl | (simp only [List.length_drop, List.length_take]; rfl)) ?_; (with_reducible refine (chain_Chain_Least.calls _ _ l0_0 _ _ l0_1 4096 t109 t110 _ ?side1 ?side2 ?side3 ?side4 A4.out).mono ?_); (case side1 => repeat (first | exact (Kd.C_below HR0_0.out HB.out) | (with_reducible refine Kd.C_alloc ?_ _) | (with_reducible refine Kd.C_drewN ?_ _) | (with_reducible refine Kd.C_drew ?_))); (case side2 => exact HC0_0.out); (case side3 => repeat (first | exact (Kd.C_below HR0_1.out HB.out) | (with_reducible refine Kd.C_alloc ?_ _) | (with_reducible refine Kd.C_drewN ?_ _) | (with_reducible refine Kd.C_drew ?_))); (case side4 => exact HC0_1.out); rintro e w10 ⟨rfl, hb⟩; refine ⟨_, rfl, ?_⟩; have n0_ := Aside0.mk (blk_below (g := gb107) (o := .cells #[.slice A0_0 l0_0.length c0_0, .slice A0_1 l0_1.length c0_1] 24 (0, 0)) (by (with_reducible repeat (first | refine blk_drewN ?_ _ | refine blk_drew ?_ | refine blk_alloc ?_ _)); exact BK107.out) hb); have n1_ := Aside0.mk (below_step (by repeat (first | (with_reducible first | exact HB.out | apply below_alloc | apply pw_below_drewN | apply below_drew1 | refine below_set ?_ GE107.out) | exact HB.out)) hb); clear BK107; clear HB; have BK107 := n0_; have HB := n1_; clear n0_ n1_; (try clear hb); (try clear hb2); (try clear hk); (try clear hi)))
      go_loopg [4, 5] k (fun kq v4 v5 w' => ∃ (x4_1 : Int) (x5_1 : Int), v4 = .int .i64 x4_1 ∧ v5 = .int .i64 x5_1 ∧ Aside0 (chain_Chain_Lowest.l0 kq x4_1 x5_1 l0_0 l0_1 = some (r1, r2)) ∧ Aside0 (kq ≤ k) ∧ Aside0 (w'.heap[gb107]? = some (.cells #[(.slice A0_0 l0_0.length c0_0), (.slice A0_1 l0_1.length c0_1)] 24 (0, 0))) ∧ Aside0 (Below w.heap.size w w'))
      case atStart => exact ⟨(0), (4096), (by first | rfl | (simp; done) | (simp [*]; done)), (by first | rfl | (simp; done) | (simp [*]; done)), H', ⟨Nat.le_refl _⟩, ⟨by (with_reducible repeat (first | refine blk_drewN ?_ _ | refine blk_drew ?_ | refine blk_alloc ?_ _)); exact BK107.out⟩, ⟨by repeat (first | (with_reducible first | exact HB.out | apply below_alloc | apply pw_below_drewN | apply below_drew1 | refine below_set ?_ GE107.out) | exact HB.out)⟩⟩
      case round =>
        clear H'
        try clear c1
        try clear p2
        try clear c3
        try clear c5
        try clear c5b0
        try clear c5b1
        try clear c10
        try clear hcz7_0
        try clear hcz7_1
        try clear hcz9_0
        try clear hcz9_1
        try clear hfz7_0
        try clear hfz7_1
        try clear hfz9_0
        try clear hfz9_1
        obtain ⟨x4_1, x5_1, rfl, rfl, HA, HK1, BK107, HB⟩ := hrel
        cases gk with
        | zero => exact absurd HA.out (by simp [chain_Chain_Lowest.l0])
        | succ k1 =>
          have H := HA.out
          clear HA
          simp only [chain_Chain_Lowest.l0] at H
          by_cases c11 : x4_1 < x5_1
          · rw [if_pos c11] at H
            have c11b0 : decide (x4_1 < x5_1) = true := decide_eq_true c11
            clear c11
            replace H := Option.bind_eq_some_iff.mp H
            obtain ⟨⟨t111, t112⟩, A120, H⟩ := H
            replace H : (if t112 = 0 then (chain_Chain_Lowest.l0 k1 x4_1 (wrap64 (Int.tdiv (wrap64 (x4_1 + x5_1)) 2)) l0_0 l0_1) else (chain_Chain_Lowest.l0 k1 (wrap64 ((wrap64 (Int.tdiv (wrap64 (x4_1 + x5_1)) 2)) + 1)) x5_1 l0_0 l0_1)) = some (r1, r2) := H
            have A12 := Aside0.mk A120
            clear A120
            by_cases c13 : t112 = 0
            · rw [if_pos c13] at H
              have c13b0 : (t112 == 0) = true := beq_iff_eq.mpr c13
              have c13b1 : (t112 != 0) = false := bne_eq_false_iff_eq.mpr c13
              clear c13
              have H' := Aside0.mk H
              clear H
              have hcz14_0 : wr.cell? ⟨gb107, 0, none⟩ = some (.slice A0_0 l0_0.length c0_0) := (blk_cell BK107.out 0).trans rfl
              have hcz14_1 : wr.cell? ⟨gb107, 1, none⟩ = some (.slice A0_1 l0_1.length c0_1) := (blk_cell BK107.out 1).trans rfl
              have hfz14_0 := blk_frozen BK107.out 0
              have hfz14_1 := blk_frozen BK107.out 1
              go_wp2_with (first | ((with_reducible refine gate_callee (f := 10) rfl ?_); refine goesL_ (some 33) rfl rfl Try.func10 (by kernel_rfl) rfl #[.agg #[.slice A0_0 l0_0.length c0_0, .slice A0_1 l0_1.length c0_1], .int .i64 (wrap64 (Int.tdiv (wrap64 (x4_1 + x5_1)) 2))] rfl (by (try simp only [List.map_toArray, List.map_cons, List.map_nil]); first | done | rfl | (simp only [List.length_drop, List.length_take]; rfl)) ?_; (with_reducible refine (chain_Chain_Least.calls _ _ l0_0 _ _ l0_1 (wrap64 (Int.tdiv (wrap64 (x4_1 + x5_1)) 2)) t111 t112 _ ?side1 ?side2 ?side3 ?side4 A12.out).mono ?_); (case side1 => repeat (first | exact (Kd.C_below HR0_0.out HB.out) | (with_reducible refine Kd.C_alloc ?_ _) | (with_reducible refine Kd.C_drewN ?_ _) | (with_reducible refine Kd.C_drew ?_))); (case side2 => exact HC0_0.out); (case side3 => repeat (first | exact (Kd.C_below HR0_1.out HB.out) | (with_reducible refine Kd.C_alloc ?_ _) | (with_reducible refine Kd.C_drewN ?_ _) | (with_reducible refine Kd.C_drew ?_))); (case side4 => exact HC0_1.out); rintro e w15 ⟨rfl, hb⟩; refine ⟨_, rfl, ?_⟩; have n0_ := Aside0.mk (blk_below (g := gb107) (o := .cells #[.slice A0_0 l0_0.length c0_0, .slice A0_1 l0_1.length c0_1] 24 (0, 0)) (by (with_reducible repeat (first | refine blk_drewN ?_ _ | refine blk_drew ?_ | refine blk_alloc ?_ _)); exact BK107.out) hb); have n1_ := Aside0.mk (below_step (by repeat (first | (with_reducible first | exact HB.out | apply below_alloc | apply pw_below_drewN | apply below_drew1 | refine below_set ?_ GE107.out) | exact HB.out)) hb); clear BK107; clear HB; have BK107 := n0_; have HB := n1_; clear n0_ n1_; (try clear hb); (try clear hb2); (try clear hk); (try clear hi)))
              go_roundg k1
              case measure => have := HK1.out; omega
              case rel => exact ⟨(x4_1), (wrap64 (Int.tdiv (wrap64 (x4_1 + x5_1)) 2)), (by first | rfl | (simp; done) | (simp [*]; done)), (by first | rfl | (simp; done) | (simp [*]; done)), H', ⟨by have := HK1.out; omega⟩, ⟨by (with_reducible repeat (first | refine blk_drewN ?_ _ | refine blk_drew ?_ | refine blk_alloc ?_ _)); exact BK107.out⟩, ⟨by repeat (first | (with_reducible first | exact HB.out | apply below_alloc | apply pw_below_drewN | apply below_drew1 | refine below_set ?_ GE107.out) | exact HB.out)⟩⟩
            · rw [if_neg c13] at H
              have c13b0 : (t112 == 0) = false := beq_eq_false_iff_ne.mpr c13
              have c13b1 : (t112 != 0) = true := bne_iff_ne.mpr c13
              have H' := Aside0.mk H
              clear H
              have hcz16_0 : wr.cell? ⟨gb107, 0, none⟩ = some (.slice A0_0 l0_0.length c0_0) := (blk_cell BK107.out 0).trans rfl
              have hcz16_1 : wr.cell? ⟨gb107, 1, none⟩ = some (.slice A0_1 l0_1.length c0_1) := (blk_cell BK107.out 1).trans rfl
              have hfz16_0 := blk_frozen BK107.out 0
              have hfz16_1 := blk_frozen BK107.out 1
              go_wp2_with (first | ((with_reducible refine gate_callee (f := 10) rfl ?_); refine goesL_ (some 33) rfl rfl Try.func10 (by kernel_rfl) rfl #[.agg #[.slice A0_0 l0_0.length c0_0, .slice A0_1 l0_1.length c0_1], .int .i64 (wrap64 (Int.tdiv (wrap64 (x4_1 + x5_1)) 2))] rfl (by (try simp only [List.map_toArray, List.map_cons, List.map_nil]); first | done | rfl | (simp only [List.length_drop, List.length_take]; rfl)) ?_; (with_reducible refine (chain_Chain_Least.calls _ _ l0_0 _ _ l0_1 (wrap64 (Int.tdiv (wrap64 (x4_1 + x5_1)) 2)) t111 t112 _ ?side1 ?side2 ?side3 ?side4 A12.out).mono ?_); (case side1 => repeat (first | exact (Kd.C_below HR0_0.out HB.out) | (with_reducible refine Kd.C_alloc ?_ _) | (with_reducible refine Kd.C_drewN ?_ _) | (with_reducible refine Kd.C_drew ?_))); (case side2 => exact HC0_0.out); (case side3 => repeat (first | exact (Kd.C_below HR0_1.out HB.out) | (with_reducible refine Kd.C_alloc ?_ _) | (with_reducible refine Kd.C_drewN ?_ _) | (with_reducible refine Kd.C_drew ?_))); (case side4 => exact HC0_1.out); rintro e w17 ⟨rfl, hb⟩; refine ⟨_, rfl, ?_⟩; have n0_ := Aside0.mk (blk_below (g := gb107) (o := .cells #[.slice A0_0 l0_0.length c0_0, .slice A0_1 l0_1.length c0_1] 24 (0, 0)) (by (with_reducible repeat (first | refine blk_drewN ?_ _ | refine blk_drew ?_ | refine blk_alloc ?_ _)); exact BK107.out) hb); have n1_ := Aside0.mk (below_step (by repeat (first | (with_reducible first | exact HB.out | apply below_alloc | apply pw_below_drewN | apply below_drew1 | refine below_set ?_ GE107.out) | exact HB.out)) hb); clear BK107; clear HB; have BK107 := n0_; have HB := n1_; clear n0_ n1_; (try clear hb); (try clear hb2); (try clear hk); (try clear hi)))
              go_roundg k1
              case measure => have := HK1.out; omega
              case rel => exact ⟨(wrap64 ((wrap64 (Int.tdiv (wrap64 (x4_1 + x5_1)) 2)) + 1)), (x5_1), (by first | rfl | (simp; done) | (simp [*]; done)), (by first | rfl | (simp; done) | (simp [*]; done)), H', ⟨by have := HK1.out; omega⟩, ⟨by (with_reducible repeat (first | refine blk_drewN ?_ _ | refine blk_drew ?_ | refine blk_alloc ?_ _)); exact BK107.out⟩, ⟨by repeat (first | (with_reducible first | exact HB.out | apply below_alloc | apply pw_below_drewN | apply below_drew1 | refine below_set ?_ GE107.out) | exact HB.out)⟩⟩
          · rw [if_neg c11] at H
            have c11b0 : decide (x4_1 < x5_1) = false := decide_eq_false c11
            clear c11
            simp only [Option.some.injEq, Prod.mk.injEq] at H
            obtain ⟨rfl, rfl⟩ := H
            go_wp2
            go_ret2
            exact ⟨by first | rfl | (simp [errW_none, errW_some] <;> rfl) | (simp [*, errW_none, errW_some] <;> rfl), by repeat (first | (with_reducible first | exact HB.out | apply below_alloc | apply pw_below_drewN | apply below_drew1 | refine below_set ?_ GE107.out) | exact HB.out)⟩
    · rw [if_neg c5] at H
      have c5b0 : (t110 == 0) = false := beq_eq_false_iff_ne.mpr c5
      have c5b1 : (t110 != 0) = true := bne_iff_ne.mpr c5
      simp only [Option.some.injEq, Prod.mk.injEq] at H
      obtain ⟨rfl, rfl⟩ := H
      go_enter Try.func16, Try.ntmps16
      go_wp2_with (first | ((with_reducible refine gate_dst (N := 1) rfl ?_); refine box_event ?hg (N := 1) ?hd (cs := #[.slice A0_0 l0_0.length c0_0, .slice A0_1 l0_1.length c0_1]) (t := 24) ?hr ?_; (case hd => rfl); (case hg => rfl); (case hr => first | (go_simp; done) | (go_simp; rfl)); intro gb107 hg w18 hbox hb; have n0_ := Aside0.mk (below_step (by repeat (first | (with_reducible first | exact HB.out | apply below_alloc | apply pw_below_drewN | apply below_drew1) | exact HB.out)) hb); have n1_ := Aside0.mk (hbox); have n2_ := Aside0.mk ((by rw [hg]; exact (below_size (by repeat (first | (with_reducible first | exact HB.out | apply below_alloc | apply pw_below_drewN | apply below_drew1) | exact HB.out))) : w.heap.size ≤ gb107)); have n3_ := Aside0.mk ((by rw [hg]; exact (below_size (by repeat (first | (with_reducible first | exact HB.out | apply below_alloc | apply pw_below_drewN | apply below_drew1) | exact HB.out))) : w.heap.size ≤ gb107)); clear HB; have HB := n0_; have BK107 := n1_; have GW107 := n2_; have GE107 := n3_; clear n0_ n1_ n2_ n3_; clear hb hbox hg; have hcz19_0 : w18.cell? ⟨gb107, 0, none⟩ = some (.slice A0_0 l0_0.length c0_0) := (blk_cell BK107.out 0).trans rfl; have hcz19_1 : w18.cell? ⟨gb107, 1, none⟩ = some (.slice A0_1 l0_1.length c0_1) := (blk_cell BK107.out 1).trans rfl; have hfz19_0 := blk_frozen BK107.out 0; have hfz19_1 := blk_frozen BK107.out 1) | ((with_reducible refine gate_callee (f := 17) rfl ?_); refine goesL_ (some 12) rfl rfl Try.func17 (by kernel_rfl) rfl #[.agg #[.slice A0_0 l0_0.length c0_0, .slice A0_1 l0_1.length c0_1]] rfl (by (try simp only [List.map_toArray, List.map_cons, List.map_nil]); first | done | rfl | (simp only [List.length_drop, List.length_take]; rfl)) ?_; (with_reducible refine (chain_Chain_Right.calls _ _ l0_0 _ _ l0_1 true _ ?side1 ?side2 ?side3 ?side4 A2.out).mono ?_); (case side1 => repeat (first | exact (Kd.C_below HR0_0.out HB.out) | (with_reducible refine Kd.C_alloc ?_ _) | (with_reducible refine Kd.C_drewN ?_ _) | (with_reducible refine Kd.C_drew ?_))); (case side2 => exact HC0_0.out); (case side3 => repeat (first | exact (Kd.C_below HR0_1.out HB.out) | (with_reducible refine Kd.C_alloc ?_ _) | (with_reducible refine Kd.C_drewN ?_ _) | (with_reducible refine Kd.C_drew ?_))); (case side4 => exact HC0_1.out); rintro e w20 ⟨rfl, hb⟩; refine ⟨_, rfl, ?_⟩; have n0_ := Aside0.mk (blk_below (g := gb107) (o := .cells #[.slice A0_0 l0_0.length c0_0, .slice A0_1 l0_1.length c0_1] 24 (0, 0)) (by (with_reducible repeat (first | refine blk_drewN ?_ _ | refine blk_drew ?_ | refine blk_alloc ?_ _)); exact BK107.out) hb); have n1_ := Aside0.mk (below_step (by repeat (first | (with_reducible first | exact HB.out | apply below_alloc | apply pw_below_drewN | apply below_drew1 | refine below_set ?_ GE107.out) | exact HB.out)) hb); clear BK107; clear HB; have BK107 := n0_; have HB := n1_; clear n0_ n1_; (try clear hb); (try clear hb2); (try clear hk); (try clear hi); have hcz21_0 : w20.cell? ⟨gb107, 0, none⟩ = some (.slice A0_0 l0_0.length c0_0) := (blk_cell BK107.out 0).trans rfl; have hcz21_1 : w20.cell? ⟨gb107, 1, none⟩ = some (.slice A0_1 l0_1.length c0_1) := (blk_cell BK107.out 1).trans rfl; have hfz21_0 := blk_frozen BK107.out 0; have hfz21_1 := blk_frozen BK107.out 1) | ((with_reducible refine gate_callee (f := 10) rfl ?_); refine goesL_ (some 17) rfl rfl Try.func10 (by kernel_rfl) rfl #[.agg #[.slice A0_0 l0_0.length c0_0, .slice A0_1 l0_1.length c0_1], .int .i64 4096] rfl (by (try simp only [List.map_toArray, List.map_cons, List.map_nil]); first | done | rfl | (simp only [List.length_drop, List.length_take]; rfl)) ?_; (with_reducible refine (chain_Chain_Least.calls _ _ l0_0 _ _ l0_1 4096 t109 t110 _ ?side1 ?side2 ?side3 ?side4 A4.out).mono ?_); (case side1 => repeat (first | exact (Kd.C_below HR0_0.out HB.out) | (with_reducible refine Kd.C_alloc ?_ _) | (with_reducible refine Kd.C_drewN ?_ _) | (with_reducible refine Kd.C_drew ?_))); (case side2 => exact HC0_0.out); (case side3 => repeat (first | exact (Kd.C_below HR0_1.out HB.out) | (with_reducible refine Kd.C_alloc ?_ _) | (with_reducible refine Kd.C_drewN ?_ _) | (with_reducible refine Kd.C_drew ?_))); (case side4 => exact HC0_1.out); rintro e w22 ⟨rfl, hb⟩; refine ⟨_, rfl, ?_⟩; have n0_ := Aside0.mk (blk_below (g := gb107) (o := .cells #[.slice A0_0 l0_0.length c0_0, .slice A0_1 l0_1.length c0_1] 24 (0, 0)) (by (with_reducible repeat (first | refine blk_drewN ?_ _ | refine blk_drew ?_ | refine blk_alloc ?_ _)); exact BK107.out) hb); have n1_ := Aside0.mk (below_step (by repeat (first | (with_reducible first | exact HB.out | apply below_alloc | apply pw_below_drewN | apply below_drew1 | refine below_set ?_ GE107.out) | exact HB.out)) hb); clear BK107; clear HB; have BK107 := n0_; have HB := n1_; clear n0_ n1_; (try clear hb); (try clear hb2); (try clear hk); (try clear hi)))
      go_ret2
      exact ⟨by first | rfl | (simp [errW_none, errW_some] <;> rfl) | (simp [*, errW_none, errW_some] <;> rfl), by repeat (first | (with_reducible first | exact HB.out | apply below_alloc | apply pw_below_drewN | apply below_drew1 | refine below_set ?_ GE107.out) | exact HB.out)⟩
  · replace c3 := Bool.eq_false_iff.mpr c3
    subst c3
    have H1 : (some (0, 10)) = some (r1, r2) := by rw [if_neg (show ¬ (false = true) by decide)] at H; exact H
    clear H
    have H := H1
    clear H1
    simp only [Option.some.injEq, Prod.mk.injEq] at H
    obtain ⟨rfl, rfl⟩ := H
    go_enter Try.func16, Try.ntmps16
    go_wp2_with (first | ((with_reducible refine gate_dst (N := 1) rfl ?_); refine box_event ?hg (N := 1) ?hd (cs := #[.slice A0_0 l0_0.length c0_0, .slice A0_1 l0_1.length c0_1]) (t := 24) ?hr ?_; (case hd => rfl); (case hg => rfl); (case hr => first | (go_simp; done) | (go_simp; rfl)); intro gb107 hg w23 hbox hb; have n0_ := Aside0.mk (below_step (by repeat (first | (with_reducible first | exact HB.out | apply below_alloc | apply pw_below_drewN | apply below_drew1) | exact HB.out)) hb); have n1_ := Aside0.mk (hbox); have n2_ := Aside0.mk ((by rw [hg]; exact (below_size (by repeat (first | (with_reducible first | exact HB.out | apply below_alloc | apply pw_below_drewN | apply below_drew1) | exact HB.out))) : w.heap.size ≤ gb107)); have n3_ := Aside0.mk ((by rw [hg]; exact (below_size (by repeat (first | (with_reducible first | exact HB.out | apply below_alloc | apply pw_below_drewN | apply below_drew1) | exact HB.out))) : w.heap.size ≤ gb107)); clear HB; have HB := n0_; have BK107 := n1_; have GW107 := n2_; have GE107 := n3_; clear n0_ n1_ n2_ n3_; clear hb hbox hg; have hcz24_0 : w23.cell? ⟨gb107, 0, none⟩ = some (.slice A0_0 l0_0.length c0_0) := (blk_cell BK107.out 0).trans rfl; have hcz24_1 : w23.cell? ⟨gb107, 1, none⟩ = some (.slice A0_1 l0_1.length c0_1) := (blk_cell BK107.out 1).trans rfl; have hfz24_0 := blk_frozen BK107.out 0; have hfz24_1 := blk_frozen BK107.out 1) | ((with_reducible refine gate_callee (f := 17) rfl ?_); refine goesL_ (some 12) rfl rfl Try.func17 (by kernel_rfl) rfl #[.agg #[.slice A0_0 l0_0.length c0_0, .slice A0_1 l0_1.length c0_1]] rfl (by (try simp only [List.map_toArray, List.map_cons, List.map_nil]); first | done | rfl | (simp only [List.length_drop, List.length_take]; rfl)) ?_; (with_reducible refine (chain_Chain_Right.calls _ _ l0_0 _ _ l0_1 false _ ?side1 ?side2 ?side3 ?side4 A2.out).mono ?_); (case side1 => repeat (first | exact (Kd.C_below HR0_0.out HB.out) | (with_reducible refine Kd.C_alloc ?_ _) | (with_reducible refine Kd.C_drewN ?_ _) | (with_reducible refine Kd.C_drew ?_))); (case side2 => exact HC0_0.out); (case side3 => repeat (first | exact (Kd.C_below HR0_1.out HB.out) | (with_reducible refine Kd.C_alloc ?_ _) | (with_reducible refine Kd.C_drewN ?_ _) | (with_reducible refine Kd.C_drew ?_))); (case side4 => exact HC0_1.out); rintro e w25 ⟨rfl, hb⟩; refine ⟨_, rfl, ?_⟩; have n0_ := Aside0.mk (blk_below (g := gb107) (o := .cells #[.slice A0_0 l0_0.length c0_0, .slice A0_1 l0_1.length c0_1] 24 (0, 0)) (by (with_reducible repeat (first | refine blk_drewN ?_ _ | refine blk_drew ?_ | refine blk_alloc ?_ _)); exact BK107.out) hb); have n1_ := Aside0.mk (below_step (by repeat (first | (with_reducible first | exact HB.out | apply below_alloc | apply pw_below_drewN | apply below_drew1 | refine below_set ?_ GE107.out) | exact HB.out)) hb); clear BK107; clear HB; have BK107 := n0_; have HB := n1_; clear n0_ n1_; (try clear hb); (try clear hb2); (try clear hk); (try clear hi)))
    go_ret2
    exact ⟨by first | rfl | (simp [errW_none, errW_some] <;> rfl) | (simp [*, errW_none, errW_some] <;> rfl), by repeat (first | (with_reducible first | exact HB.out | apply below_alloc | apply pw_below_drewN | apply below_drew1 | refine below_set ?_ GE107.out) | exact HB.out)⟩
end Go.Proofs.Ytiejdbdbafmccaa.PCh
