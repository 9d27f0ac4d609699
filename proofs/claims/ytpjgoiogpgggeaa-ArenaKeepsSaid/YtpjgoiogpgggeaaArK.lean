/- The arena's Give that gives, walked. Conditions: the blocks lie in order within the cells. -/
import Derived.Test.YtpjgoiogpgggeaaArJ
import Derived.Outline
import Derived.Deep.DeepCutAuto
import Derived.Deep.CutBlock
import Derived.Test.YtpjgoiogpgggeaaWLast
namespace Go.Proofs.Ytpjgoiogpgggeaa
open Go.RowKit Go.Proofs.YtpjgoiogpgggeaaW.PrintLast
theorem own_slice3 {w : World} {base e sz n : Nat} {v : Value} {xs : List Value} (h : w.ownsRow base e sz v n xs) : ∃ A m c, v = .slice A m c := by
  obtain ⟨A, c, h⟩ := own_slice h
  exact ⟨A, n, c, h⟩
def GXE (w : World) (g : Nat) (vc0 vl0 vc : Value) (a : Ar) (p : Nat) (b : Bk) (W : World) : Prop := ∃ vl, GX w g vc0 vl0 vc vl a p b W
set_option maxRecDepth 100000 in
set_option maxHeartbeats 4000000 in
theorem give_there (g : Nat) (vc vl : Value) (a a1 : Ar) (n fr i : Nat) (w : World) (hA : Ara w g vc vl a) (hn : 1 ≤ n ∧ n ≤ 65536) (hcm : a.cap ≤ 16777216) (hf : a.live + n ≤ a.cap) (hl : a.l.length ≤ 1000000) (hb : ∀ b ∈ a.l, b.f + b.w ≤ 16777216) (hgap : gapOf a.cap n a.l 0 0 = some (fr, i)) (ha1 : a1 = a) (hl1 : a1.l.length ≤ 1000000) (hlast : a1.last ≤ 1000000) (hf1 : a1.live + n ≤ 16777216) (hi : i ≤ a1.l.length) (hfr : fr + n ≤ 16777216) :
    Calls Try.prog 11 #[.pointer (some ⟨g, 0, none⟩), .int .i64 n] w (AraPost w g vc vl (.tuple #[.int .i64 ((a1.last : Int) + 1), .int .i64 0]) (giveAt a1 fr i n)) := by
  have hgp := gap_any g vc vl a n w.drew (hA.below ⟨rfl, rfl, rfl, Nat.le_refl _, fun _ _ => rfl⟩) hcm hn.2 (by omega) hb
  rw [hgap] at hgp
  simp only [gapVals] at hgp
  have HGP := Lib.hid hgp
  have HST := Lib.hid fun w1 (hb : Below w.heap.size w w1) => (GS.start (ha1 ▸ hA)).below hb
  obtain ⟨⟨h0, h1, h2, h3⟩, h4, h5, h6, h7⟩ := hA.cells
  have n1 : ¬ (n : Int) < 1 := by omega
  have n2 : ¬ (65536 : Int) < (n : Int) := by omega
  have n3 : ¬ (a.cap : Int) - (a.live : Int) < (n : Int) := by omega
  have n4 : IntKind.i64.wrap ((a.cap : Int) - (a.live : Int)) = (a.cap : Int) - (a.live : Int) := by rw [IntKind.wrap_i64]; omega
  clear hA hgp hb hgap ha1 hf
  go_enter Try.func11, Try.ntmps11
  go_wp2_with fail
  go_region
  go_upto_region 11 with (go_at_call 26; refine HGP.out.mono ?_; rintro e w1 ⟨rfl, hb1'⟩; obtain ⟨vc1, vl1, hx1⟩ : ∃ vc1 vl1, GS w g vc vl vc1 vl1 a1 w1 := ⟨_, _, HST.out w1 ⟨hb1'.os, hb1'.tape, hb1'.output, hb1'.size, hb1'.block⟩⟩; clear hb1' h0 h1 h2 h3 h4 h5 h6 h7; obtain ⟨⟨h0, h1, h2, h3⟩, h4, h5, h6, h7⟩ := hx1.ar.cells; have f3 := hx1.ar.blk.frozen 3; have HG := Lib.hid hx1; clear hx1)
  obtain ⟨A1, k1, hvl⟩ := own_slice HG.out.ar.l
  subst hvl
  obtain ⟨W0, hW0⟩ : ∃ W0, W0 = (w1.setCell ⟨g, 3, none⟩ (.int .i64 ((a1.last : Int) + 1))).alloc (.cells #[.int .i64 ((a1.last : Int) + 1), .int .i64 fr, .int .i64 n] 45) := ⟨_, rfl⟩
  rw [← hW0]
  have hp : w1.heap.size = w1.heap.size := rfl
  have hx : GX w g vc vl vc1 (.slice A1 a1.l.length k1) { a1 with last := a1.last + 1 } w1.heap.size ⟨a1.last + 1, fr, n⟩ W0 := by
    have := GX.start (HG.out.setlast (a1.last + 1)) ⟨a1.last + 1, fr, n⟩
    rw [hW0]
    simpa [World.setCell] using this
  have HX0 := Lib.hid hx
  clear hW0 hp
  generalize w1.heap.size = p at *
  obtain ⟨⟨⟨x0, x1, x2⟩, ⟨c0, c1, c2, c3⟩, c4, c5, c6⟩, f2, f4, f5, f6⟩ := hx.cells
  simp only [Int.natCast_add, Int.cast_ofNat_Int] at x0 c3
  have hins : ∀ W1, Below W0.heap.size W0 W1 → Blk W1 W0.heap.size 45 #[.int .i64 ((a1.last : Int) + 1), .int .i64 fr, .int .i64 n] → Calls Try.prog 28 #[.slice A1 a1.l.length k1, .int .i64 i, .slice (some ⟨W0.heap.size, 0, none⟩) 1 1] W1 fun e w3 => ∃ vl', e = .returned vl' ∧ (w3.cell? ⟨g, 2, none⟩ = some (.slice A1 a1.l.length k1) ∧ w3.frozen? ⟨g, 2, none⟩ = false) ∧ (w3.cell? ⟨p, 0, none⟩ = some (.int .i64 ((a1.last : Int) + 1)) ∧ w3.cell? ⟨p, 1, none⟩ = some (.int .i64 fr) ∧ w3.cell? ⟨p, 2, none⟩ = some (.int .i64 n)) ∧ GX w g vc vl vc1 vl' { a1 with last := a1.last + 1, l := a1.l.take i ++ ⟨a1.last + 1, fr, n⟩ :: a1.l.drop i } p ⟨a1.last + 1, fr, n⟩ (w3.setCell ⟨g, 2, none⟩ vl') := fun W1 hb hv => by
    have h1 := hx.below hb
    refine (ins_block (.slice A1 a1.l.length k1) a1.l.length i (bents a1.l) (bval ⟨a1.last + 1, fr, n⟩) W0.heap.size W1 hl1 hi h1.gs.ar.l hv rfl ?_ (bents_one _) (by simp [bval, Value.oneCell'])).mono ?_
    · intro e
      rcases hx.gs.ar.l.2 with ⟨h0, _⟩ | ⟨r, cap, cur, hv, _, hg, _⟩
      · rw [h0] at e; simp [Value.ownBlock] at e
      · rw [hv] at e; simp [Value.ownBlock] at e; subst e; exact absurd (Array.getElem?_eq_some_iff.1 hg).1 (Nat.lt_irrefl _)
    · rintro e w3 hp
      obtain ⟨vl', q1, q2, q3, q4⟩ := h1.ins hi hp
      exact ⟨vl', q1, q2, ⟨q3.cell 0, q3.cell 1, q3.cell 2⟩, q4⟩
  have HINS := Lib.hid hins
  clear hins
  have e2 := (hx.below ((Below.refl _ _).alloc (Nat.le_refl _) (.cells #[.int .i64 ((a1.last : Int) + 1), .int .i64 fr, .int .i64 n] 45))).cells.1.2.1.2.2.1
  clear hx
  go_cut [8] (fun s8 wx => s8 = .pointer (some ⟨p, 0, none⟩) ∧ GXE w g vc vl vc1 { a1 with last := a1.last + 1, l := a1.l.take i ++ ⟨a1.last + 1, fr, n⟩ :: a1.l.drop i } p ⟨a1.last + 1, fr, n⟩ wx)
  case first =>
    go_region_law (first | (go_simp; go_at_call 28; refine (HINS.out _ ?_ ?_).mono ?_; (first | exact ((Below.refl _ _).alloc (Nat.le_refl _) _).drew | exact ((Below.refl _ _).drew).alloc (Nat.le_refl _) _); (exact Blk.new _ _ _); rintro e w3 ⟨vl2', rfl, ⟨d1, d2⟩, ⟨d3, d4, d5⟩, hx1⟩; obtain ⟨A2, n2', k2, rfl⟩ := own_slice3 hx1.gs.ar.l; have HX1 := Lib.hid hx1; clear hx1))
    all_goals (go_wp2_with fail; go_meet; exact ⟨rfl, _, HX1.out⟩)
  case rest =>
    clear x0 x1 x2 c0 c1 c2 c3 c4 c5 c6 f2 f4 f5 f6 e2
    obtain ⟨rfl, vl2', hx1⟩ := hcut
    have HX1 := Lib.hid hx1
    clear hx1
    obtain ⟨⟨⟨x0, x1, x2⟩, ⟨c0, c1, c2, c3⟩, c4, c5, c6⟩, f2, f4, f5, f6⟩ := HX1.out.cells
    simp only [Int.natCast_add, Int.cast_ofNat_Int] at x0 c3
    go_wp2_with (first
      | (go_at_call 30; refine (to_any (a1.last + 1) fr n _ (by omega)).mono ?_; rintro e w4 ⟨rfl, hb4⟩; have HX2 := Lib.hid (HX1.out.below hb4); clear hb4)
      | (go_at_call 29; refine (grow_any g _ _ _ (fr + n) _ HX2.out.gs.ar (by omega)).mono ?_; rintro e w5 hp5; obtain ⟨vc1, vl2, rfl, hx3⟩ := HX2.out.grow hp5; have HX3 := Lib.hid hx3; clear hp5 hx3))
    clear x0 x1 x2 c0 c1 c2 c3 c4 c5 c6 f2 f4 f5 f6 h0 h1 h2 h3 h4 h5 h6 h7 f3 HX2 HX1 HINS HX0 HG
    obtain ⟨i0, hi0, hz0, hz1, hz2, hz3⟩ := info_parts4 info_F
    have hgl : fr + n ≤ (growTo a1.cells (fr + n)).length := by simp [growTo]; omega
    obtain ⟨rc, cc, hvc⟩ := own_some HX3.out.gs.ar.c (by show 0 < (growTo a1.cells (fr + n)).length; omega)
    subst hvc
    obtain ⟨cur, hbc, hcc, hct, hcn, hcx⟩ := own_blk1 HX3.out.gs.ar.c
    have hS : ∀ w6, Below w5.heap.size w5 w6 → _ := fun w6 hb => (HX3.out.below hb).cells
    have HS := Lib.hid hS
    have HF5 : Hid (∀ w6, Below w5.heap.size w5 w6 → Blk w6 rc 59 cur.toArray ∧ ∀ w7, Blk w7 rc 59 (splice cur fr (Builtin.zeroCells (Value.int .i64 0).cells n).toList).toArray → w6.grownBy w7 (some rc) → GX w g vc vl (.slice (some ⟨rc, 0, none⟩) (growTo a1.cells (fr + n)).length cc) vl2 { a1 with last := a1.last + 1, l := a1.l.take i ++ ⟨a1.last + 1, fr, n⟩ :: a1.l.drop i, cells := clearC (growTo a1.cells (fr + n)) fr n } p ⟨a1.last + 1, fr, n⟩ w7) := fun w6 hb =>
      ⟨hbc.below hb hbc.lt, fun w7 h7 hg7 => (HX3.out.below hb).clr rfl (hbc.below hb hbc.lt) hgl h7 hg7⟩
    obtain ⟨⟨⟨x0, x1, x2⟩, ⟨c0, c1, c2, c3⟩, c4, c5, c6⟩, f2, f4, f5, f6⟩ := hS w5 (Below.refl _ _)
    simp only [Int.natCast_add, Int.cast_ofNat_Int] at x0 c3
    have n2 : fr + n ≤ cc := by simp only at hcn; omega
    have n4 : fr ≤ cc := by omega
    have n5 : ¬ cc = fr := by omega
    have b3 : ((fr + n : Nat) : Int) ≤ (cc : Int) := by omega
    have b4 : (fr : Int) ≤ ((fr + n : Nat) : Int) := by omega
    have b5 : (fr : Int) + (n : Int) ≤ (cc : Int) := by omega
    have b8 : (0 : Int) ≤ (fr : Int) := by omega
    have b9 : ((fr : Int) + (n : Int)).toNat = fr + n := by omega
    have b10 : (0 : Int) ≤ (fr : Int) + (n : Int) := by omega
    have b11 : (fr : Int) ≤ (fr : Int) + (n : Int) := by omega
    have HCC := Lib.hid hcc
    clear hS hbc hcc hct hcn hcx c0 c2 c3 c4 c5 c6 f2 f4 f5 f6
    go_region_held3 (fun w' => w'.cell? ⟨g, 1, none⟩ = some (.slice (some ⟨rc, 0, none⟩) (growTo a1.cells (fr + n)).length cc) ∧ w'.cell? ⟨p, 0, none⟩ = some (.int .i64 ((a1.last : Int) + 1)) ∧ w'.cell? ⟨p, 1, none⟩ = some (.int .i64 fr) ∧ w'.cell? ⟨p, 2, none⟩ = some (.int .i64 n)) (go_keep)
      (first | (go_at_call 30; refine (to_any (a1.last + 1) fr n _ (by omega)).mono ?_; rintro e w6 ⟨rfl, hb6'⟩; have hb6 : Below w5.heap.size w5 w6 := ⟨hb6'.os, hb6'.tape, hb6'.output, hb6'.size, hb6'.block⟩; obtain ⟨⟨⟨x0, x1, x2⟩, ⟨c0, c1, c2, c3⟩, c4, c5, c6⟩, f2, f4, f5, f6⟩ := HS.out w6 hb6; have HF6 := Lib.hid (HF5.out w6 hb6); clear c0 c2 c3 c4 c5 c6 f2 f4 f5 f6 hb6 hb6') | (refine step_clear_blk rfl (.tmp 80) 23 rfl 59 i0 (.int .i64 0) Try.underlying23 hi0 hz0 rc fr n (cc - fr) (by simp [Act.eval, Act.put, n5]) cur 59 HF6.out.1 (by rw [HCC.out]; simp [Value.cells]; omega) (by simp [Value.cells, Value.oneCell']) ?_; intro w7 hb7 hg7; have HX7 := Lib.hid (HF6.out.2 w7 hb7 hg7); clear hb7 hg7; obtain ⟨⟨⟨x0, x1, x2⟩, ⟨c0, c1, c2, c3⟩, c4, c5, c6⟩, f2, f4, f5, f6⟩ := HX7.out.cells))
    simp only [Int.natCast_add, Int.cast_ofNat_Int] at x0 c3
    go_wp2_with fail
    obtain ⟨w8, hw8⟩ : ∃ w8, w8 = w7.setCell ⟨g, 4, none⟩ (.int .i64 ((a1.live : Int) + (n : Int))) := ⟨_, rfl⟩
    rw [← hw8]
    have hx8 : GX w g vc vl (.slice (some ⟨rc, 0, none⟩) (growTo a1.cells (fr + n)).length cc) vl2 { a1 with last := a1.last + 1, l := a1.l.take i ++ ⟨a1.last + 1, fr, n⟩ :: a1.l.drop i, cells := clearC (growTo a1.cells (fr + n)) fr n, live := a1.live + n } p ⟨a1.last + 1, fr, n⟩ w8 := by
      rw [hw8]
      exact HX7.out.setlive (a1.live + n)
    clear hw8 x0 x1 x2 c0 c1 c2 c3 c4 c5 c6 f2 f4 f5 f6 HX7 HF5 HS
    obtain ⟨⟨⟨x0, x1, x2⟩, ⟨c0, c1, c2, c3⟩, c4, c5, c6⟩, f2, f4, f5, f6⟩ := hx8.cells
    simp only [Int.natCast_add, Int.cast_ofNat_Int] at x0 c3 c4
    have HX8 := Lib.hid hx8
    clear hx8
    have HTO : Hid (∀ W, Calls Try.prog 30 #[.agg #[.int .i64 ((a1.last : Int) + 1), .int .i64 fr, .int .i64 n]] W fun e w' => e = .returned (.int .i64 ((fr + n : Nat) : Int)) ∧ Below W.heap.size W w') := fun W => to_any (a1.last + 1) fr n W (by omega)
    refine start_ (n := 24) (S := fun w' => w'.cell? ⟨g, 5, none⟩ = some (.int .i64 a1.high) ∧ w'.cell? ⟨g, 6, none⟩ = some (.int .i64 a1.peak) ∧ w'.cell? ⟨g, 4, none⟩ = some (.int .i64 ((a1.live : Int) + (n : Int))) ∧ w'.cell? ⟨p, 0, none⟩ = some (.int .i64 ((a1.last : Int) + 1)) ∧ w'.cell? ⟨p, 1, none⟩ = some (.int .i64 fr) ∧ w'.cell? ⟨p, 2, none⟩ = some (.int .i64 n)) (ds := [20, 23]) #[false, false, false, false, false, false, false, false, false, false, false, false, false, false, false, false, false, false, false, false, false, false, false, false] (by kernel_rfl) rfl rfl ⟨c5, c6, c4, x0, x1, x2⟩ (fun hHeld => ?_)
    refine pure_ (i := 0) (N := some 89) (v := ?_) (a' := ?_) #[true, false, false, false, false, false, false, false, false, false, false, false, false, false, false, false, false, false, false, false, false, false, false, false] rfl rfl (by kernel_rfl) (fun _ _ _ h => h) (Or.inl ⟨by rfl, ?_⟩) ?_ ?_
    rotate_left
    · intro w'
      go_simp
      with_reducible rfl
    rotate_left
    · simp only [Act.put, List.setIfInBounds_toArray, List.set_cons_zero, List.set_cons_succ, i64_w, i32_w]
      rfl
    refine pure_ (i := 1) (N := some 90) (v := ?_) (a' := ?_) #[true, true, false, false, false, false, false, false, false, false, false, false, false, false, false, false, false, false, false, false, false, false, false, false] rfl rfl (by kernel_rfl) (fun _ _ _ h => h) (Or.inl ⟨by rfl, ?_⟩) ?_ ?_
    rotate_left
    · intro w'
      go_simp
      with_reducible rfl
    rotate_left
    · simp only [Act.put, List.setIfInBounds_toArray, List.set_cons_zero, List.set_cons_succ, i64_w, i32_w]
      rfl
    refine pure_ (i := 2) (N := some 91) (v := ?_) (a' := ?_) #[true, true, true, false, false, false, false, false, false, false, false, false, false, false, false, false, false, false, false, false, false, false, false, false] rfl rfl (by kernel_rfl) (fun _ _ _ h => h) (Or.inl ⟨by rfl, ?_⟩) ?_ ?_
    rotate_left
    · intro w'
      go_simp
      with_reducible rfl
    rotate_left
    · simp only [Act.put, List.setIfInBounds_toArray, List.set_cons_zero, List.set_cons_succ, i64_w, i32_w]
      rfl
    refine pure_ (i := 3) (N := some 92) (v := ?_) (a' := ?_) #[true, true, true, true, false, false, false, false, false, false, false, false, false, false, false, false, false, false, false, false, false, false, false, false] rfl rfl (by kernel_rfl) (fun _ _ _ h => h) (Or.inl ⟨by rfl, ?_⟩) ?_ ?_
    rotate_left
    · intro w'
      go_simp
      with_reducible rfl
    rotate_left
    · simp only [Act.put, List.setIfInBounds_toArray, List.set_cons_zero, List.set_cons_succ, i64_w, i32_w]
      rfl
    refine pure_ (i := 4) (N := some 93) (v := ?_) (a' := ?_) #[true, true, true, true, true, false, false, false, false, false, false, false, false, false, false, false, false, false, false, false, false, false, false, false] rfl rfl (by kernel_rfl) (fun _ _ _ h => h) (Or.inl ⟨by rfl, ?_⟩) ?_ ?_
    rotate_left
    · intro w'
      go_simp
      with_reducible rfl
    rotate_left
    · simp only [Act.put, List.setIfInBounds_toArray, List.set_cons_zero, List.set_cons_succ, i64_w, i32_w]
      rfl
    refine pure_ (i := 9) (N := some 98) (v := ?_) (a' := ?_) #[true, true, true, true, true, false, false, false, false, true, false, false, false, false, false, false, false, false, false, false, false, false, false, false] rfl rfl (by kernel_rfl) (fun _ _ _ h => h) (Or.inl ⟨by rfl, ?_⟩) ?_ ?_
    rotate_left
    · intro w'
      go_simp
      with_reducible rfl
    rotate_left
    · simp only [Act.put, List.setIfInBounds_toArray, List.set_cons_zero, List.set_cons_succ, i64_w, i32_w]
      rfl
    refine pure_ (i := 10) (N := some 99) (v := ?_) (a' := ?_) #[true, true, true, true, true, false, false, false, false, true, true, false, false, false, false, false, false, false, false, false, false, false, false, false] rfl rfl (by kernel_rfl) (fun _ _ _ h => h) (Or.inl ⟨by rfl, ?_⟩) ?_ ?_
    rotate_left
    · intro w'
      go_simp
      with_reducible rfl
    rotate_left
    · simp only [Act.put, List.setIfInBounds_toArray, List.set_cons_zero, List.set_cons_succ, i64_w, i32_w]
      rfl
    refine pure_ (i := 11) (N := some 100) (v := ?_) (a' := ?_) #[true, true, true, true, true, false, false, false, false, true, true, true, false, false, false, false, false, false, false, false, false, false, false, false] rfl rfl (by kernel_rfl) (fun _ _ _ h => h) (Or.inl ⟨by rfl, ?_⟩) ?_ ?_
    rotate_left
    · intro w'
      go_simp
      with_reducible rfl
    rotate_left
    · simp only [Act.put, List.setIfInBounds_toArray, List.set_cons_zero, List.set_cons_succ, i64_w, i32_w]
      rfl
    refine pure_ (i := 13) (N := some 102) (v := ?_) (a' := ?_) #[true, true, true, true, true, false, false, false, false, true, true, true, false, true, false, false, false, false, false, false, false, false, false, false] rfl rfl (by kernel_rfl) (fun _ _ _ h => h) (Or.inl ⟨by rfl, ?_⟩) ?_ ?_
    rotate_left
    · intro w'
      go_simp
      with_reducible rfl
    rotate_left
    · simp only [Act.put, List.setIfInBounds_toArray, List.set_cons_zero, List.set_cons_succ, i64_w, i32_w]
      rfl
    refine pure_ (i := 14) (N := some 103) (v := ?_) (a' := ?_) #[true, true, true, true, true, false, false, false, false, true, true, true, false, true, true, false, false, false, false, false, false, false, false, false] rfl rfl (by kernel_rfl) (fun _ _ _ h => h) (Or.inl ⟨by rfl, ?_⟩) ?_ ?_
    rotate_left
    · intro w'
      go_simp
      with_reducible rfl
    rotate_left
    · simp only [Act.put, List.setIfInBounds_toArray, List.set_cons_zero, List.set_cons_succ, i64_w, i32_w]
      rfl
    refine pure_ (i := 15) (N := some 104) (v := ?_) (a' := ?_) #[true, true, true, true, true, false, false, false, false, true, true, true, false, true, true, true, false, false, false, false, false, false, false, false] rfl rfl (by kernel_rfl) (fun _ _ _ h => h) (Or.inl ⟨by rfl, ?_⟩) ?_ ?_
    rotate_left
    · intro w'
      go_simp
      with_reducible rfl
    rotate_left
    · simp only [Act.put, List.setIfInBounds_toArray, List.set_cons_zero, List.set_cons_succ, i64_w, i32_w]
      rfl
    refine take_ (i := 5) (N := some 94) (v := ?_) (a' := ?_) #[true, true, true, true, true, true, false, false, false, true, true, true, false, true, true, true, false, false, false, false, false, false, false, false] rfl rfl (by kernel_rfl) (fun _ _ _ h => h) (Or.inl ⟨by rfl, ?_⟩) hHeld ?_ ?_
    rotate_left
    · rintro w' ⟨s0, s1, s2, s3, s4, s5⟩
      go_simp
      with_reducible rfl
    rotate_left
    · simp only [Act.put, List.setIfInBounds_toArray, List.set_cons_zero, List.set_cons_succ, i64_w, i32_w]
      rfl
    refine take_ (i := 6) (N := some 95) (v := ?_) (a' := ?_) #[true, true, true, true, true, true, true, false, false, true, true, true, false, true, true, true, false, false, false, false, false, false, false, false] rfl rfl (by kernel_rfl) (fun _ _ _ h => h) (Or.inl ⟨by rfl, ?_⟩) hHeld ?_ ?_
    rotate_left
    · rintro w' ⟨s0, s1, s2, s3, s4, s5⟩
      go_simp
      with_reducible rfl
    rotate_left
    · simp only [Act.put, List.setIfInBounds_toArray, List.set_cons_zero, List.set_cons_succ, i64_w, i32_w]
      rfl
    refine take_ (i := 12) (N := some 101) (v := ?_) (a' := ?_) #[true, true, true, true, true, true, true, false, false, true, true, true, true, true, true, true, false, false, false, false, false, false, false, false] rfl rfl (by kernel_rfl) (fun _ _ _ h => h) (Or.inl ⟨by rfl, ?_⟩) hHeld ?_ ?_
    rotate_left
    · rintro w' ⟨s0, s1, s2, s3, s4, s5⟩
      go_simp
      with_reducible rfl
    rotate_left
    · simp only [Act.put, List.setIfInBounds_toArray, List.set_cons_zero, List.set_cons_succ, i64_w, i32_w]
      rfl
    refine take_ (i := 16) (N := some 105) (v := ?_) (a' := ?_) #[true, true, true, true, true, true, true, false, false, true, true, true, true, true, true, true, true, false, false, false, false, false, false, false] rfl rfl (by kernel_rfl) (fun _ _ _ h => h) (Or.inl ⟨by rfl, ?_⟩) hHeld ?_ ?_
    rotate_left
    · rintro w' ⟨s0, s1, s2, s3, s4, s5⟩
      go_simp
      with_reducible rfl
    rotate_left
    · simp only [Act.put, List.setIfInBounds_toArray, List.set_cons_zero, List.set_cons_succ, i64_w, i32_w]
      rfl
    refine pure_ (i := 17) (N := some 106) (v := ?_) (a' := ?_) #[true, true, true, true, true, true, true, false, false, true, true, true, true, true, true, true, true, true, false, false, false, false, false, false] rfl rfl (by kernel_rfl) (fun _ _ _ h => h) (Or.inl ⟨by rfl, ?_⟩) ?_ ?_
    rotate_left
    · intro w'
      go_simp
      with_reducible rfl
    rotate_left
    · simp only [Act.put, List.setIfInBounds_toArray, List.set_cons_zero, List.set_cons_succ, i64_w, i32_w]
      rfl
    refine one_ (i := 7) (N := some 96) #[true, true, true, true, true, true, true, true, false, true, true, true, true, true, true, true, true, true, false, false, false, false, false, false] rfl rfl (by kernel_rfl) (by decide) (fun K hK => ?_)
    refine goes_ Try.func30 (by kernel_rfl) rfl #[.agg #[.int .i64 ((a1.last : Int) + 1), .int .i64 fr, .int .i64 n]] (by rfl) rfl rfl (by simp only [List.map_toArray, List.map_cons, List.map_nil]; rfl) ?_
    with_reducible refine (HTO.out _).mono ?_
    rintro e w9 ⟨rfl, hb9'⟩
    refine ⟨_, rfl, ?_⟩
    have hb9 : Below w8.heap.size w8 w9 := ⟨hb9'.os, hb9'.tape, hb9'.output, hb9'.size, hb9'.block⟩
    have hx9 := HX8.out.below hb9
    obtain ⟨⟨⟨y0, y1, y2⟩, ⟨d0, d1, d2, d3⟩, d4, d5, d6⟩, g2, g4, g5, g6⟩ := hx9.cells
    simp only [Int.natCast_add, Int.cast_ofNat_Int] at d3 d4 y0
    have HFN : Hid (∀ H P : Int, H = ((max a1.high (fr + n) : Nat) : Int) → P = ((max a1.peak (a1.live + n) : Nat) : Int) → AraPost w g vc vl (.tuple #[.int .i64 ((a1.last : Int) + 1), .int .i64 0]) (giveAt a1 fr i n) (.returned (.tuple #[.int .i64 ((a1.last : Int) + 1), .int .i64 0])) ((w9.setCell ⟨g, 5, none⟩ (.int .i64 H)).setCell ⟨g, 6, none⟩ (.int .i64 P))) := by
      rintro _ _ rfl rfl
      exact ((hx9.sethigh (max a1.high (fr + n))).setpeak (max a1.peak (a1.live + n))).gs.post _
    clear hb9' hb9 hx9
    refine hK.out _ _ ⟨d5, d6, d4, y0, y1, y2⟩ (fun hHeld => ?_)
    clear hK K
    refine norm_ (a' := ?_) ?_ ?_
    rotate_left
    · show Act.put _ (some 96) _ = _
      simp only [Act.put, List.setIfInBounds_toArray, List.set_cons_zero, List.set_cons_succ, i64_w, i32_w]
      rfl
    refine pure_ (i := 8) (N := some 97) (v := ?_) (a' := ?_) #[true, true, true, true, true, true, true, true, true, true, true, true, true, true, true, true, true, true, false, false, false, false, false, false] rfl rfl (by kernel_rfl) (fun _ _ _ h => h) (Or.inl ⟨by rfl, ?_⟩) ?_ ?_
    rotate_left
    · intro w'
      go_simp
      with_reducible rfl
    rotate_left
    · simp only [Act.put, List.setIfInBounds_toArray, List.set_cons_zero, List.set_cons_succ, i64_w, i32_w]
      rfl
    refine pure_ (i := 18) (N := some 107) (v := ?_) (a' := ?_) #[true, true, true, true, true, true, true, true, true, true, true, true, true, true, true, true, true, true, true, false, false, false, false, false] rfl rfl (by kernel_rfl) (fun _ _ _ h => h) (Or.inl ⟨by rfl, ?_⟩) ?_ ?_
    rotate_left
    · intro w'
      go_simp
      with_reducible rfl
    rotate_left
    · simp only [Act.put, List.setIfInBounds_toArray, List.set_cons_zero, List.set_cons_succ, i64_w, i32_w]
      rfl
    refine pure_ (i := 19) (N := some 108) (v := ?_) (a' := ?_) #[true, true, true, true, true, true, true, true, true, true, true, true, true, true, true, true, true, true, true, true, false, false, false, false] rfl rfl (by kernel_rfl) (fun _ _ _ h => h) (Or.inl ⟨by rfl, ?_⟩) ?_ ?_
    rotate_left
    · intro w'
      go_simp
      with_reducible rfl
    rotate_left
    · simp only [Act.put, List.setIfInBounds_toArray, List.set_cons_zero, List.set_cons_succ, i64_w, i32_w]
      rfl
    refine last_ (i := 20) (N := none) #[true, true, true, true, true, true, true, true, true, true, true, true, true, true, true, true, true, true, true, true, true, false, false, false] rfl rfl (by kernel_rfl) (by decide) (fun K hK => ?_)
    refine skip_ (w1 := ?_) (by rfl) rfl ?_ ?_
    rotate_left
    · go_simp
      rfl
    refine hK.out _ _ ?_
    clear hK K
    refine pure_ (i := 21) (N := some 109) (v := ?_) (a' := ?_) #[true, true, true, true, true, true, true, true, true, true, true, true, true, true, true, true, true, true, true, true, true, true, false, false] rfl rfl (by kernel_rfl) (fun _ _ _ h => h) (Or.inl ⟨by rfl, ?_⟩) ?_ ?_
    rotate_left
    · intro w'
      go_simp
      with_reducible rfl
    rotate_left
    · simp only [Act.put, List.setIfInBounds_toArray, List.set_cons_zero, List.set_cons_succ, i64_w, i32_w]
      rfl
    refine pure_ (i := 22) (N := some 110) (v := ?_) (a' := ?_) #[true, true, true, true, true, true, true, true, true, true, true, true, true, true, true, true, true, true, true, true, true, true, true, false] rfl rfl (by kernel_rfl) (fun _ _ _ h => h) (Or.inl ⟨by rfl, ?_⟩) ?_ ?_
    rotate_left
    · intro w'
      go_simp
      with_reducible rfl
    rotate_left
    · simp only [Act.put, List.setIfInBounds_toArray, List.set_cons_zero, List.set_cons_succ, i64_w, i32_w]
      rfl
    refine last_ (i := 23) (N := none) #[true, true, true, true, true, true, true, true, true, true, true, true, true, true, true, true, true, true, true, true, true, true, true, true] rfl rfl (by kernel_rfl) (by decide) (fun K hK => ?_)
    refine skip_ (w1 := ?_) (by rfl) rfl ?_ ?_
    rotate_left
    · go_simp
      rfl
    refine hK.out _ _ ?_
    clear hK K
    refine done_ (by kernel_rfl) ?_
    go_wp2_with fail
    all_goals go_ret2
    all_goals exact HFN.out _ _ (by omega) (by omega)
set_option maxRecDepth 100000 in
set_option maxHeartbeats 4000000 in
theorem give_pack (g : Nat) (vc vl : Value) (a a1 : Ar) (n fr i : Nat) (w : World) (hA : Ara w g vc vl a) (hn : 1 ≤ n ∧ n ≤ 65536) (hcm : a.cap ≤ 16777216) (hf : a.live + n ≤ a.cap) (hl : a.l.length ≤ 1000000) (hb : ∀ b ∈ a.l, b.f + b.w ≤ 16777216) (hgap : gapOf a.cap n a.l 0 0 = none) (hF : Fit 0 a.cells.length a.l) (hcl : a.cells.length ≤ 16777216) (hmv : a.moves ≤ 16777216) (ha1 : a1 = compactA a) (hb1 : ∀ b ∈ a1.l, b.f + b.w ≤ 16777216) (hgap1 : gapOf a1.cap n a1.l 0 0 = some (fr, i)) (hl1 : a1.l.length ≤ 1000000) (hlast : a1.last ≤ 1000000) (hf1 : a1.live + n ≤ 16777216) (hi : i ≤ a1.l.length) (hfr : fr + n ≤ 16777216) :
    Calls Try.prog 11 #[.pointer (some ⟨g, 0, none⟩), .int .i64 n] w (AraPost w g vc vl (.tuple #[.int .i64 ((a1.last : Int) + 1), .int .i64 0]) (giveAt a1 fr i n)) := by
  have hgp := gap_any g vc vl a n w.drew (hA.below ⟨rfl, rfl, rfl, Nat.le_refl _, fun _ _ => rfl⟩) hcm hn.2 (by omega) hb
  rw [hgap] at hgp
  simp only [gapVals] at hgp
  have HGP := Lib.hid hgp
  have hcap1 : a1.cap ≤ 16777216 := by rw [ha1]; exact hcm
  have HCP : Hid (∀ w1, Below w.heap.size w w1 → Calls Try.prog 27 #[.pointer (some ⟨g, 0, none⟩)] w1 fun e w2 => ∃ vc1 vl1, e = .returned (.tuple #[]) ∧ GS w g vc vl vc1 vl1 a1 w2) := fun w1 hb => by
    have h1 := (GS.start hA).below hb
    refine (compact_any g vc vl a w1 h1.ar (by omega) hF hcl hmv).mono ?_
    rintro e w2 hp
    obtain ⟨vc1, vl1, q1, q2, _⟩ := h1.next hp
    exact ⟨vc1, vl1, q1, ha1 ▸ q2⟩
  have HGQ : Hid (∀ w2 vc1 vl1, GS w g vc vl vc1 vl1 a1 w2 → Calls Try.prog 26 #[.pointer (some ⟨g, 0, none⟩), .int .i64 n] w2 fun e w3 => e = .returned (.tuple #[.int .i64 fr, .int .i64 i]) ∧ Below w2.heap.size w2 w3) := fun w2 vc1 vl1 h2 => by
    have := gap_any g vc1 vl1 a1 n w2 h2.ar hcap1 hn.2 (by omega) hb1
    rw [hgap1] at this
    exact this
  obtain ⟨⟨h0, h1, h2, h3⟩, h4, h5, h6, h7⟩ := hA.cells
  have n1 : ¬ (n : Int) < 1 := by omega
  have n2 : ¬ (65536 : Int) < (n : Int) := by omega
  have n3 : ¬ (a.cap : Int) - (a.live : Int) < (n : Int) := by omega
  have n4 : IntKind.i64.wrap ((a.cap : Int) - (a.live : Int)) = (a.cap : Int) - (a.live : Int) := by rw [IntKind.wrap_i64]; omega
  clear hA hgp hb hgap ha1 hf hF hb1 hgap1 hcap1
  go_enter Try.func11, Try.ntmps11
  go_wp2_with fail
  go_region
  go_upto_region 11 with (first
    | (go_at_call 26; refine HGP.out.mono ?_; rintro e w1' ⟨rfl, hb1'⟩; have HB1 := Lib.hid (show Below w.heap.size w w1' from ⟨hb1'.os, hb1'.tape, hb1'.output, hb1'.size, hb1'.block⟩); clear hb1' h0 h1 h2 h3 h4 h5 h6 h7 HGP)
    | (go_at_call 27; refine (HCP.out w1' HB1.out).mono ?_; rintro e w2' ⟨vc1, vl1, rfl, hx2⟩; have HX2 := Lib.hid hx2; clear hx2)
    | (go_at_call 26; refine (HGQ.out w2' vc1 vl1 HX2.out).mono ?_; rintro e w1 ⟨rfl, hb1'⟩; have hx1 := HX2.out.below hb1'; clear hb1'; obtain ⟨⟨h0, h1, h2, h3⟩, h4, h5, h6, h7⟩ := hx1.ar.cells; have f3 := hx1.ar.blk.frozen 3; have HG := Lib.hid hx1; clear hx1))
  obtain ⟨A1, k1, hvl⟩ := own_slice HG.out.ar.l
  subst hvl
  obtain ⟨W0, hW0⟩ : ∃ W0, W0 = (w1.setCell ⟨g, 3, none⟩ (.int .i64 ((a1.last : Int) + 1))).alloc (.cells #[.int .i64 ((a1.last : Int) + 1), .int .i64 fr, .int .i64 n] 45) := ⟨_, rfl⟩
  rw [← hW0]
  have hp : w1.heap.size = w1.heap.size := rfl
  have hx : GX w g vc vl vc1 (.slice A1 a1.l.length k1) { a1 with last := a1.last + 1 } w1.heap.size ⟨a1.last + 1, fr, n⟩ W0 := by
    have := GX.start (HG.out.setlast (a1.last + 1)) ⟨a1.last + 1, fr, n⟩
    rw [hW0]
    simpa [World.setCell] using this
  have HX0 := Lib.hid hx
  clear hW0 hp
  generalize w1.heap.size = p at *
  obtain ⟨⟨⟨x0, x1, x2⟩, ⟨c0, c1, c2, c3⟩, c4, c5, c6⟩, f2, f4, f5, f6⟩ := hx.cells
  simp only [Int.natCast_add, Int.cast_ofNat_Int] at x0 c3
  have hins : ∀ W1, Below W0.heap.size W0 W1 → Blk W1 W0.heap.size 45 #[.int .i64 ((a1.last : Int) + 1), .int .i64 fr, .int .i64 n] → Calls Try.prog 28 #[.slice A1 a1.l.length k1, .int .i64 i, .slice (some ⟨W0.heap.size, 0, none⟩) 1 1] W1 fun e w3 => ∃ vl', e = .returned vl' ∧ (w3.cell? ⟨g, 2, none⟩ = some (.slice A1 a1.l.length k1) ∧ w3.frozen? ⟨g, 2, none⟩ = false) ∧ (w3.cell? ⟨p, 0, none⟩ = some (.int .i64 ((a1.last : Int) + 1)) ∧ w3.cell? ⟨p, 1, none⟩ = some (.int .i64 fr) ∧ w3.cell? ⟨p, 2, none⟩ = some (.int .i64 n)) ∧ GX w g vc vl vc1 vl' { a1 with last := a1.last + 1, l := a1.l.take i ++ ⟨a1.last + 1, fr, n⟩ :: a1.l.drop i } p ⟨a1.last + 1, fr, n⟩ (w3.setCell ⟨g, 2, none⟩ vl') := fun W1 hb hv => by
    have h1 := hx.below hb
    refine (ins_block (.slice A1 a1.l.length k1) a1.l.length i (bents a1.l) (bval ⟨a1.last + 1, fr, n⟩) W0.heap.size W1 hl1 hi h1.gs.ar.l hv rfl ?_ (bents_one _) (by simp [bval, Value.oneCell'])).mono ?_
    · intro e
      rcases hx.gs.ar.l.2 with ⟨h0, _⟩ | ⟨r, cap, cur, hv, _, hg, _⟩
      · rw [h0] at e; simp [Value.ownBlock] at e
      · rw [hv] at e; simp [Value.ownBlock] at e; subst e; exact absurd (Array.getElem?_eq_some_iff.1 hg).1 (Nat.lt_irrefl _)
    · rintro e w3 hp
      obtain ⟨vl', q1, q2, q3, q4⟩ := h1.ins hi hp
      exact ⟨vl', q1, q2, ⟨q3.cell 0, q3.cell 1, q3.cell 2⟩, q4⟩
  have HINS := Lib.hid hins
  clear hins
  have e2 := (hx.below ((Below.refl _ _).alloc (Nat.le_refl _) (.cells #[.int .i64 ((a1.last : Int) + 1), .int .i64 fr, .int .i64 n] 45))).cells.1.2.1.2.2.1
  clear hx
  go_cut [8] (fun s8 wx => s8 = .pointer (some ⟨p, 0, none⟩) ∧ GXE w g vc vl vc1 { a1 with last := a1.last + 1, l := a1.l.take i ++ ⟨a1.last + 1, fr, n⟩ :: a1.l.drop i } p ⟨a1.last + 1, fr, n⟩ wx)
  case first =>
    go_region_law (first | (go_simp; go_at_call 28; refine (HINS.out _ ?_ ?_).mono ?_; (first | exact ((Below.refl _ _).alloc (Nat.le_refl _) _).drew | exact ((Below.refl _ _).drew).alloc (Nat.le_refl _) _); (exact Blk.new _ _ _); rintro e w3 ⟨vl2', rfl, ⟨d1, d2⟩, ⟨d3, d4, d5⟩, hx1⟩; obtain ⟨A2, n2', k2, rfl⟩ := own_slice3 hx1.gs.ar.l; have HX1 := Lib.hid hx1; clear hx1))
    all_goals (go_wp2_with fail; go_meet; exact ⟨rfl, _, HX1.out⟩)
  case rest =>
    clear x0 x1 x2 c0 c1 c2 c3 c4 c5 c6 f2 f4 f5 f6 e2
    obtain ⟨rfl, vl2', hx1⟩ := hcut
    have HX1 := Lib.hid hx1
    clear hx1
    obtain ⟨⟨⟨x0, x1, x2⟩, ⟨c0, c1, c2, c3⟩, c4, c5, c6⟩, f2, f4, f5, f6⟩ := HX1.out.cells
    simp only [Int.natCast_add, Int.cast_ofNat_Int] at x0 c3
    go_wp2_with (first
      | (go_at_call 30; refine (to_any (a1.last + 1) fr n _ (by omega)).mono ?_; rintro e w4 ⟨rfl, hb4⟩; have HX2 := Lib.hid (HX1.out.below hb4); clear hb4)
      | (go_at_call 29; refine (grow_any g _ _ _ (fr + n) _ HX2.out.gs.ar (by omega)).mono ?_; rintro e w5 hp5; obtain ⟨vc1, vl2, rfl, hx3⟩ := HX2.out.grow hp5; have HX3 := Lib.hid hx3; clear hp5 hx3))
    clear x0 x1 x2 c0 c1 c2 c3 c4 c5 c6 f2 f4 f5 f6 h0 h1 h2 h3 h4 h5 h6 h7 f3 HX2 HX1 HINS HX0 HG
    obtain ⟨i0, hi0, hz0, hz1, hz2, hz3⟩ := info_parts4 info_F
    have hgl : fr + n ≤ (growTo a1.cells (fr + n)).length := by simp [growTo]; omega
    obtain ⟨rc, cc, hvc⟩ := own_some HX3.out.gs.ar.c (by show 0 < (growTo a1.cells (fr + n)).length; omega)
    subst hvc
    obtain ⟨cur, hbc, hcc, hct, hcn, hcx⟩ := own_blk1 HX3.out.gs.ar.c
    have hS : ∀ w6, Below w5.heap.size w5 w6 → _ := fun w6 hb => (HX3.out.below hb).cells
    have HS := Lib.hid hS
    have HF5 : Hid (∀ w6, Below w5.heap.size w5 w6 → Blk w6 rc 59 cur.toArray ∧ ∀ w7, Blk w7 rc 59 (splice cur fr (Builtin.zeroCells (Value.int .i64 0).cells n).toList).toArray → w6.grownBy w7 (some rc) → GX w g vc vl (.slice (some ⟨rc, 0, none⟩) (growTo a1.cells (fr + n)).length cc) vl2 { a1 with last := a1.last + 1, l := a1.l.take i ++ ⟨a1.last + 1, fr, n⟩ :: a1.l.drop i, cells := clearC (growTo a1.cells (fr + n)) fr n } p ⟨a1.last + 1, fr, n⟩ w7) := fun w6 hb =>
      ⟨hbc.below hb hbc.lt, fun w7 h7 hg7 => (HX3.out.below hb).clr rfl (hbc.below hb hbc.lt) hgl h7 hg7⟩
    obtain ⟨⟨⟨x0, x1, x2⟩, ⟨c0, c1, c2, c3⟩, c4, c5, c6⟩, f2, f4, f5, f6⟩ := hS w5 (Below.refl _ _)
    simp only [Int.natCast_add, Int.cast_ofNat_Int] at x0 c3
    have n2 : fr + n ≤ cc := by simp only at hcn; omega
    have n4 : fr ≤ cc := by omega
    have n5 : ¬ cc = fr := by omega
    have b3 : ((fr + n : Nat) : Int) ≤ (cc : Int) := by omega
    have b4 : (fr : Int) ≤ ((fr + n : Nat) : Int) := by omega
    have b5 : (fr : Int) + (n : Int) ≤ (cc : Int) := by omega
    have b8 : (0 : Int) ≤ (fr : Int) := by omega
    have b9 : ((fr : Int) + (n : Int)).toNat = fr + n := by omega
    have b10 : (0 : Int) ≤ (fr : Int) + (n : Int) := by omega
    have b11 : (fr : Int) ≤ (fr : Int) + (n : Int) := by omega
    have HCC := Lib.hid hcc
    clear hS hbc hcc hct hcn hcx c0 c2 c3 c4 c5 c6 f2 f4 f5 f6
    go_region_held3 (fun w' => w'.cell? ⟨g, 1, none⟩ = some (.slice (some ⟨rc, 0, none⟩) (growTo a1.cells (fr + n)).length cc) ∧ w'.cell? ⟨p, 0, none⟩ = some (.int .i64 ((a1.last : Int) + 1)) ∧ w'.cell? ⟨p, 1, none⟩ = some (.int .i64 fr) ∧ w'.cell? ⟨p, 2, none⟩ = some (.int .i64 n)) (go_keep)
      (first | (go_at_call 30; refine (to_any (a1.last + 1) fr n _ (by omega)).mono ?_; rintro e w6 ⟨rfl, hb6'⟩; have hb6 : Below w5.heap.size w5 w6 := ⟨hb6'.os, hb6'.tape, hb6'.output, hb6'.size, hb6'.block⟩; obtain ⟨⟨⟨x0, x1, x2⟩, ⟨c0, c1, c2, c3⟩, c4, c5, c6⟩, f2, f4, f5, f6⟩ := HS.out w6 hb6; have HF6 := Lib.hid (HF5.out w6 hb6); clear c0 c2 c3 c4 c5 c6 f2 f4 f5 f6 hb6 hb6') | (refine step_clear_blk rfl (.tmp 80) 23 rfl 59 i0 (.int .i64 0) Try.underlying23 hi0 hz0 rc fr n (cc - fr) (by simp [Act.eval, Act.put, n5]) cur 59 HF6.out.1 (by rw [HCC.out]; simp [Value.cells]; omega) (by simp [Value.cells, Value.oneCell']) ?_; intro w7 hb7 hg7; have HX7 := Lib.hid (HF6.out.2 w7 hb7 hg7); clear hb7 hg7; obtain ⟨⟨⟨x0, x1, x2⟩, ⟨c0, c1, c2, c3⟩, c4, c5, c6⟩, f2, f4, f5, f6⟩ := HX7.out.cells))
    simp only [Int.natCast_add, Int.cast_ofNat_Int] at x0 c3
    go_wp2_with fail
    obtain ⟨w8, hw8⟩ : ∃ w8, w8 = w7.setCell ⟨g, 4, none⟩ (.int .i64 ((a1.live : Int) + (n : Int))) := ⟨_, rfl⟩
    rw [← hw8]
    have hx8 : GX w g vc vl (.slice (some ⟨rc, 0, none⟩) (growTo a1.cells (fr + n)).length cc) vl2 { a1 with last := a1.last + 1, l := a1.l.take i ++ ⟨a1.last + 1, fr, n⟩ :: a1.l.drop i, cells := clearC (growTo a1.cells (fr + n)) fr n, live := a1.live + n } p ⟨a1.last + 1, fr, n⟩ w8 := by
      rw [hw8]
      exact HX7.out.setlive (a1.live + n)
    clear hw8 x0 x1 x2 c0 c1 c2 c3 c4 c5 c6 f2 f4 f5 f6 HX7 HF5 HS
    obtain ⟨⟨⟨x0, x1, x2⟩, ⟨c0, c1, c2, c3⟩, c4, c5, c6⟩, f2, f4, f5, f6⟩ := hx8.cells
    simp only [Int.natCast_add, Int.cast_ofNat_Int] at x0 c3 c4
    have HX8 := Lib.hid hx8
    clear hx8
    have HTO : Hid (∀ W, Calls Try.prog 30 #[.agg #[.int .i64 ((a1.last : Int) + 1), .int .i64 fr, .int .i64 n]] W fun e w' => e = .returned (.int .i64 ((fr + n : Nat) : Int)) ∧ Below W.heap.size W w') := fun W => to_any (a1.last + 1) fr n W (by omega)
    refine start_ (n := 24) (S := fun w' => w'.cell? ⟨g, 5, none⟩ = some (.int .i64 a1.high) ∧ w'.cell? ⟨g, 6, none⟩ = some (.int .i64 a1.peak) ∧ w'.cell? ⟨g, 4, none⟩ = some (.int .i64 ((a1.live : Int) + (n : Int))) ∧ w'.cell? ⟨p, 0, none⟩ = some (.int .i64 ((a1.last : Int) + 1)) ∧ w'.cell? ⟨p, 1, none⟩ = some (.int .i64 fr) ∧ w'.cell? ⟨p, 2, none⟩ = some (.int .i64 n)) (ds := [20, 23]) #[false, false, false, false, false, false, false, false, false, false, false, false, false, false, false, false, false, false, false, false, false, false, false, false] (by kernel_rfl) rfl rfl ⟨c5, c6, c4, x0, x1, x2⟩ (fun hHeld => ?_)
    refine pure_ (i := 0) (N := some 89) (v := ?_) (a' := ?_) #[true, false, false, false, false, false, false, false, false, false, false, false, false, false, false, false, false, false, false, false, false, false, false, false] rfl rfl (by kernel_rfl) (fun _ _ _ h => h) (Or.inl ⟨by rfl, ?_⟩) ?_ ?_
    rotate_left
    · intro w'
      go_simp
      with_reducible rfl
    rotate_left
    · simp only [Act.put, List.setIfInBounds_toArray, List.set_cons_zero, List.set_cons_succ, i64_w, i32_w]
      rfl
    refine pure_ (i := 1) (N := some 90) (v := ?_) (a' := ?_) #[true, true, false, false, false, false, false, false, false, false, false, false, false, false, false, false, false, false, false, false, false, false, false, false] rfl rfl (by kernel_rfl) (fun _ _ _ h => h) (Or.inl ⟨by rfl, ?_⟩) ?_ ?_
    rotate_left
    · intro w'
      go_simp
      with_reducible rfl
    rotate_left
    · simp only [Act.put, List.setIfInBounds_toArray, List.set_cons_zero, List.set_cons_succ, i64_w, i32_w]
      rfl
    refine pure_ (i := 2) (N := some 91) (v := ?_) (a' := ?_) #[true, true, true, false, false, false, false, false, false, false, false, false, false, false, false, false, false, false, false, false, false, false, false, false] rfl rfl (by kernel_rfl) (fun _ _ _ h => h) (Or.inl ⟨by rfl, ?_⟩) ?_ ?_
    rotate_left
    · intro w'
      go_simp
      with_reducible rfl
    rotate_left
    · simp only [Act.put, List.setIfInBounds_toArray, List.set_cons_zero, List.set_cons_succ, i64_w, i32_w]
      rfl
    refine pure_ (i := 3) (N := some 92) (v := ?_) (a' := ?_) #[true, true, true, true, false, false, false, false, false, false, false, false, false, false, false, false, false, false, false, false, false, false, false, false] rfl rfl (by kernel_rfl) (fun _ _ _ h => h) (Or.inl ⟨by rfl, ?_⟩) ?_ ?_
    rotate_left
    · intro w'
      go_simp
      with_reducible rfl
    rotate_left
    · simp only [Act.put, List.setIfInBounds_toArray, List.set_cons_zero, List.set_cons_succ, i64_w, i32_w]
      rfl
    refine pure_ (i := 4) (N := some 93) (v := ?_) (a' := ?_) #[true, true, true, true, true, false, false, false, false, false, false, false, false, false, false, false, false, false, false, false, false, false, false, false] rfl rfl (by kernel_rfl) (fun _ _ _ h => h) (Or.inl ⟨by rfl, ?_⟩) ?_ ?_
    rotate_left
    · intro w'
      go_simp
      with_reducible rfl
    rotate_left
    · simp only [Act.put, List.setIfInBounds_toArray, List.set_cons_zero, List.set_cons_succ, i64_w, i32_w]
      rfl
    refine pure_ (i := 9) (N := some 98) (v := ?_) (a' := ?_) #[true, true, true, true, true, false, false, false, false, true, false, false, false, false, false, false, false, false, false, false, false, false, false, false] rfl rfl (by kernel_rfl) (fun _ _ _ h => h) (Or.inl ⟨by rfl, ?_⟩) ?_ ?_
    rotate_left
    · intro w'
      go_simp
      with_reducible rfl
    rotate_left
    · simp only [Act.put, List.setIfInBounds_toArray, List.set_cons_zero, List.set_cons_succ, i64_w, i32_w]
      rfl
    refine pure_ (i := 10) (N := some 99) (v := ?_) (a' := ?_) #[true, true, true, true, true, false, false, false, false, true, true, false, false, false, false, false, false, false, false, false, false, false, false, false] rfl rfl (by kernel_rfl) (fun _ _ _ h => h) (Or.inl ⟨by rfl, ?_⟩) ?_ ?_
    rotate_left
    · intro w'
      go_simp
      with_reducible rfl
    rotate_left
    · simp only [Act.put, List.setIfInBounds_toArray, List.set_cons_zero, List.set_cons_succ, i64_w, i32_w]
      rfl
    refine pure_ (i := 11) (N := some 100) (v := ?_) (a' := ?_) #[true, true, true, true, true, false, false, false, false, true, true, true, false, false, false, false, false, false, false, false, false, false, false, false] rfl rfl (by kernel_rfl) (fun _ _ _ h => h) (Or.inl ⟨by rfl, ?_⟩) ?_ ?_
    rotate_left
    · intro w'
      go_simp
      with_reducible rfl
    rotate_left
    · simp only [Act.put, List.setIfInBounds_toArray, List.set_cons_zero, List.set_cons_succ, i64_w, i32_w]
      rfl
    refine pure_ (i := 13) (N := some 102) (v := ?_) (a' := ?_) #[true, true, true, true, true, false, false, false, false, true, true, true, false, true, false, false, false, false, false, false, false, false, false, false] rfl rfl (by kernel_rfl) (fun _ _ _ h => h) (Or.inl ⟨by rfl, ?_⟩) ?_ ?_
    rotate_left
    · intro w'
      go_simp
      with_reducible rfl
    rotate_left
    · simp only [Act.put, List.setIfInBounds_toArray, List.set_cons_zero, List.set_cons_succ, i64_w, i32_w]
      rfl
    refine pure_ (i := 14) (N := some 103) (v := ?_) (a' := ?_) #[true, true, true, true, true, false, false, false, false, true, true, true, false, true, true, false, false, false, false, false, false, false, false, false] rfl rfl (by kernel_rfl) (fun _ _ _ h => h) (Or.inl ⟨by rfl, ?_⟩) ?_ ?_
    rotate_left
    · intro w'
      go_simp
      with_reducible rfl
    rotate_left
    · simp only [Act.put, List.setIfInBounds_toArray, List.set_cons_zero, List.set_cons_succ, i64_w, i32_w]
      rfl
    refine pure_ (i := 15) (N := some 104) (v := ?_) (a' := ?_) #[true, true, true, true, true, false, false, false, false, true, true, true, false, true, true, true, false, false, false, false, false, false, false, false] rfl rfl (by kernel_rfl) (fun _ _ _ h => h) (Or.inl ⟨by rfl, ?_⟩) ?_ ?_
    rotate_left
    · intro w'
      go_simp
      with_reducible rfl
    rotate_left
    · simp only [Act.put, List.setIfInBounds_toArray, List.set_cons_zero, List.set_cons_succ, i64_w, i32_w]
      rfl
    refine take_ (i := 5) (N := some 94) (v := ?_) (a' := ?_) #[true, true, true, true, true, true, false, false, false, true, true, true, false, true, true, true, false, false, false, false, false, false, false, false] rfl rfl (by kernel_rfl) (fun _ _ _ h => h) (Or.inl ⟨by rfl, ?_⟩) hHeld ?_ ?_
    rotate_left
    · rintro w' ⟨s0, s1, s2, s3, s4, s5⟩
      go_simp
      with_reducible rfl
    rotate_left
    · simp only [Act.put, List.setIfInBounds_toArray, List.set_cons_zero, List.set_cons_succ, i64_w, i32_w]
      rfl
    refine take_ (i := 6) (N := some 95) (v := ?_) (a' := ?_) #[true, true, true, true, true, true, true, false, false, true, true, true, false, true, true, true, false, false, false, false, false, false, false, false] rfl rfl (by kernel_rfl) (fun _ _ _ h => h) (Or.inl ⟨by rfl, ?_⟩) hHeld ?_ ?_
    rotate_left
    · rintro w' ⟨s0, s1, s2, s3, s4, s5⟩
      go_simp
      with_reducible rfl
    rotate_left
    · simp only [Act.put, List.setIfInBounds_toArray, List.set_cons_zero, List.set_cons_succ, i64_w, i32_w]
      rfl
    refine take_ (i := 12) (N := some 101) (v := ?_) (a' := ?_) #[true, true, true, true, true, true, true, false, false, true, true, true, true, true, true, true, false, false, false, false, false, false, false, false] rfl rfl (by kernel_rfl) (fun _ _ _ h => h) (Or.inl ⟨by rfl, ?_⟩) hHeld ?_ ?_
    rotate_left
    · rintro w' ⟨s0, s1, s2, s3, s4, s5⟩
      go_simp
      with_reducible rfl
    rotate_left
    · simp only [Act.put, List.setIfInBounds_toArray, List.set_cons_zero, List.set_cons_succ, i64_w, i32_w]
      rfl
    refine take_ (i := 16) (N := some 105) (v := ?_) (a' := ?_) #[true, true, true, true, true, true, true, false, false, true, true, true, true, true, true, true, true, false, false, false, false, false, false, false] rfl rfl (by kernel_rfl) (fun _ _ _ h => h) (Or.inl ⟨by rfl, ?_⟩) hHeld ?_ ?_
    rotate_left
    · rintro w' ⟨s0, s1, s2, s3, s4, s5⟩
      go_simp
      with_reducible rfl
    rotate_left
    · simp only [Act.put, List.setIfInBounds_toArray, List.set_cons_zero, List.set_cons_succ, i64_w, i32_w]
      rfl
    refine pure_ (i := 17) (N := some 106) (v := ?_) (a' := ?_) #[true, true, true, true, true, true, true, false, false, true, true, true, true, true, true, true, true, true, false, false, false, false, false, false] rfl rfl (by kernel_rfl) (fun _ _ _ h => h) (Or.inl ⟨by rfl, ?_⟩) ?_ ?_
    rotate_left
    · intro w'
      go_simp
      with_reducible rfl
    rotate_left
    · simp only [Act.put, List.setIfInBounds_toArray, List.set_cons_zero, List.set_cons_succ, i64_w, i32_w]
      rfl
    refine one_ (i := 7) (N := some 96) #[true, true, true, true, true, true, true, true, false, true, true, true, true, true, true, true, true, true, false, false, false, false, false, false] rfl rfl (by kernel_rfl) (by decide) (fun K hK => ?_)
    refine goes_ Try.func30 (by kernel_rfl) rfl #[.agg #[.int .i64 ((a1.last : Int) + 1), .int .i64 fr, .int .i64 n]] (by rfl) rfl rfl (by simp only [List.map_toArray, List.map_cons, List.map_nil]; rfl) ?_
    with_reducible refine (HTO.out _).mono ?_
    rintro e w9 ⟨rfl, hb9'⟩
    refine ⟨_, rfl, ?_⟩
    have hb9 : Below w8.heap.size w8 w9 := ⟨hb9'.os, hb9'.tape, hb9'.output, hb9'.size, hb9'.block⟩
    have hx9 := HX8.out.below hb9
    obtain ⟨⟨⟨y0, y1, y2⟩, ⟨d0, d1, d2, d3⟩, d4, d5, d6⟩, g2, g4, g5, g6⟩ := hx9.cells
    simp only [Int.natCast_add, Int.cast_ofNat_Int] at d3 d4 y0
    have HFN : Hid (∀ H P : Int, H = ((max a1.high (fr + n) : Nat) : Int) → P = ((max a1.peak (a1.live + n) : Nat) : Int) → AraPost w g vc vl (.tuple #[.int .i64 ((a1.last : Int) + 1), .int .i64 0]) (giveAt a1 fr i n) (.returned (.tuple #[.int .i64 ((a1.last : Int) + 1), .int .i64 0])) ((w9.setCell ⟨g, 5, none⟩ (.int .i64 H)).setCell ⟨g, 6, none⟩ (.int .i64 P))) := by
      rintro _ _ rfl rfl
      exact ((hx9.sethigh (max a1.high (fr + n))).setpeak (max a1.peak (a1.live + n))).gs.post _
    clear hb9' hb9 hx9
    refine hK.out _ _ ⟨d5, d6, d4, y0, y1, y2⟩ (fun hHeld => ?_)
    clear hK K
    refine norm_ (a' := ?_) ?_ ?_
    rotate_left
    · show Act.put _ (some 96) _ = _
      simp only [Act.put, List.setIfInBounds_toArray, List.set_cons_zero, List.set_cons_succ, i64_w, i32_w]
      rfl
    refine pure_ (i := 8) (N := some 97) (v := ?_) (a' := ?_) #[true, true, true, true, true, true, true, true, true, true, true, true, true, true, true, true, true, true, false, false, false, false, false, false] rfl rfl (by kernel_rfl) (fun _ _ _ h => h) (Or.inl ⟨by rfl, ?_⟩) ?_ ?_
    rotate_left
    · intro w'
      go_simp
      with_reducible rfl
    rotate_left
    · simp only [Act.put, List.setIfInBounds_toArray, List.set_cons_zero, List.set_cons_succ, i64_w, i32_w]
      rfl
    refine pure_ (i := 18) (N := some 107) (v := ?_) (a' := ?_) #[true, true, true, true, true, true, true, true, true, true, true, true, true, true, true, true, true, true, true, false, false, false, false, false] rfl rfl (by kernel_rfl) (fun _ _ _ h => h) (Or.inl ⟨by rfl, ?_⟩) ?_ ?_
    rotate_left
    · intro w'
      go_simp
      with_reducible rfl
    rotate_left
    · simp only [Act.put, List.setIfInBounds_toArray, List.set_cons_zero, List.set_cons_succ, i64_w, i32_w]
      rfl
    refine pure_ (i := 19) (N := some 108) (v := ?_) (a' := ?_) #[true, true, true, true, true, true, true, true, true, true, true, true, true, true, true, true, true, true, true, true, false, false, false, false] rfl rfl (by kernel_rfl) (fun _ _ _ h => h) (Or.inl ⟨by rfl, ?_⟩) ?_ ?_
    rotate_left
    · intro w'
      go_simp
      with_reducible rfl
    rotate_left
    · simp only [Act.put, List.setIfInBounds_toArray, List.set_cons_zero, List.set_cons_succ, i64_w, i32_w]
      rfl
    refine last_ (i := 20) (N := none) #[true, true, true, true, true, true, true, true, true, true, true, true, true, true, true, true, true, true, true, true, true, false, false, false] rfl rfl (by kernel_rfl) (by decide) (fun K hK => ?_)
    refine skip_ (w1 := ?_) (by rfl) rfl ?_ ?_
    rotate_left
    · go_simp
      rfl
    refine hK.out _ _ ?_
    clear hK K
    refine pure_ (i := 21) (N := some 109) (v := ?_) (a' := ?_) #[true, true, true, true, true, true, true, true, true, true, true, true, true, true, true, true, true, true, true, true, true, true, false, false] rfl rfl (by kernel_rfl) (fun _ _ _ h => h) (Or.inl ⟨by rfl, ?_⟩) ?_ ?_
    rotate_left
    · intro w'
      go_simp
      with_reducible rfl
    rotate_left
    · simp only [Act.put, List.setIfInBounds_toArray, List.set_cons_zero, List.set_cons_succ, i64_w, i32_w]
      rfl
    refine pure_ (i := 22) (N := some 110) (v := ?_) (a' := ?_) #[true, true, true, true, true, true, true, true, true, true, true, true, true, true, true, true, true, true, true, true, true, true, true, false] rfl rfl (by kernel_rfl) (fun _ _ _ h => h) (Or.inl ⟨by rfl, ?_⟩) ?_ ?_
    rotate_left
    · intro w'
      go_simp
      with_reducible rfl
    rotate_left
    · simp only [Act.put, List.setIfInBounds_toArray, List.set_cons_zero, List.set_cons_succ, i64_w, i32_w]
      rfl
    refine last_ (i := 23) (N := none) #[true, true, true, true, true, true, true, true, true, true, true, true, true, true, true, true, true, true, true, true, true, true, true, true] rfl rfl (by kernel_rfl) (by decide) (fun K hK => ?_)
    refine skip_ (w1 := ?_) (by rfl) rfl ?_ ?_
    rotate_left
    · go_simp
      rfl
    refine hK.out _ _ ?_
    clear hK K
    refine done_ (by kernel_rfl) ?_
    go_wp2_with fail
    all_goals go_ret2
    all_goals exact HFN.out _ _ (by omega) (by omega)
end Go.Proofs.Ytpjgoiogpgggeaa
