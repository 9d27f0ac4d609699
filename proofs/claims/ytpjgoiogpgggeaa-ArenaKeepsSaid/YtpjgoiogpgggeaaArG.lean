/- The arena's Put, walked. Conditions: the blocks lie within the cells. -/
import Derived.Test.YtpjgoiogpgggeaaArF
namespace Go.Proofs.Ytpjgoiogpgggeaa
open Go.RowKit
set_option maxRecDepth 100000 in
set_option maxHeartbeats 1000000 in
theorem put_none (g : Nat) (vc vl : Value) (a : Ar) (N : Int) (B : Option Addr) (m c : Nat) (w : World) (hA : Ara w g vc vl a) (hl : a.l.length ≤ 16777216) (hq : hix N a.l 0 = none) :
    Calls Try.prog 14 #[.pointer (some ⟨g, 0, none⟩), .int .i64 N, .slice B m c] w fun e w' => e = .returned (.int .i64 14) ∧ Below w.heap.size w w' := by
  have hF := find_any g vc vl a N w hA hl
  simp only [hq, fiVals] at hF
  have HFI := Lib.hid hF
  clear hF hA hq
  go_enter Try.func14, Try.ntmps14
  go_wp2_with (go_at_call 18; refine HFI.out.mono ?_; rintro e w1 ⟨rfl, hb1⟩)
  go_ret
  exact ⟨rfl, hb1.alloc hb1.size _⟩
set_option maxRecDepth 100000 in
set_option maxHeartbeats 1000000 in
theorem put_shape (g : Nat) (vc vl : Value) (a : Ar) (N : Int) (i : Nat) (B : Option Addr) (m c : Nat) (w : World) (hA : Ara w g vc vl a) (hl : a.l.length ≤ 16777216) (hq : hix N a.l 0 = some i) (hi : i < a.l.length) (hm : m ≠ a.l[i].w) :
    Calls Try.prog 14 #[.pointer (some ⟨g, 0, none⟩), .int .i64 N, .slice B m c] w fun e w' => e = .returned (.int .i64 20) ∧ Below w.heap.size w w' := by
  have hgd : a.l.getD i ⟨0, 0, 0⟩ = a.l[i] := by simp [hi]
  have hF := find_any g vc vl a N w hA hl
  simp only [hq, fiVals, hgd, bagg] at hF
  have HFI := Lib.hid hF
  clear hF hA hq hgd
  generalize a.l[i] = q at *
  obtain ⟨qh, qf, qw⟩ := q
  simp only at *
  have hmi : ¬ (m : Int) = (qw : Int) := by omega
  have hme : ((m : Int) == (qw : Int)) = false := by simpa using hmi
  have hmn : ((m : Int) != (qw : Int)) = true := by simpa using hmi
  go_enter Try.func14, Try.ntmps14
  go_wp2_with (go_at_call 18; refine HFI.out.mono ?_; rintro e w1 ⟨rfl, hb1⟩)
  go_ret
  exact ⟨rfl, hb1.alloc hb1.size _⟩
def putC (cs : List Int) (f : Nat) (ys : List Int) : List Int := cs.take f ++ ys ++ cs.drop (f + ys.length)
set_option maxRecDepth 100000 in
set_option maxHeartbeats 1000000 in
theorem put_some (g : Nat) (vc vl : Value) (a : Ar) (N : Int) (i : Nat) (sb so m c : Nat) (ys : List Int) (w : World) (hA : Ara w g vc vl a) (hl : a.l.length ≤ 16777216) (hq : hix N a.l 0 = some i) (hi : i < a.l.length) (hm : m = a.l[i].w) (hb : a.l[i].f + a.l[i].w ≤ a.cells.length) (hw : 1 ≤ a.l[i].w) (hcm : a.cells.length ≤ 16777216) (hyl : ys.length = m) (hsb : sb < w.heap.size) (hys : ∀ j u, (ivals ys)[j]? = some u → w.cell? ⟨sb, so + j, none⟩ = some u) :
    Calls Try.prog 14 #[.pointer (some ⟨g, 0, none⟩), .int .i64 N, .slice (some ⟨sb, so, none⟩) m c] w (AraPost w g vc vl (.int .i64 0) { a with cells := putC a.cells a.l[i].f ys }) := by
  obtain ⟨i0, hi0, hz0, hz1, hz2, hz3⟩ := info_parts4 info_F
  obtain ⟨rc, cc, rfl⟩ := own_some hA.c (by omega)
  have hgd : a.l.getD i ⟨0, 0, 0⟩ = a.l[i] := by simp [hi]
  have hF := find_any g _ vl a N w hA hl
  have hO := fun w1 (hb1 : Below w.heap.size w w1) => own_any g rc cc vl a a.l[i] w1 (hA.below hb1) hb hw hcm
  simp only [hq, fiVals, hgd, bagg] at hF hO
  have hfin : ∀ w1, Below w.heap.size w w1 → ∃ cur : List Value, Blk w1 rc 59 cur.toArray ∧ a.l[i].f + (ivals ys).length ≤ cur.length ∧ (∀ w3, Blk w3 rc 59 (splice cur a.l[i].f (ivals ys)).toArray → w1.grownBy w3 (some rc) → AraPost w g (.slice (some ⟨rc, 0, none⟩) a.cells.length cc) vl (.int .i64 0) { a with cells := putC a.cells a.l[i].f ys } (.returned (.int .i64 0)) w3) := fun w1 hb1 => by
    have h1 := hA.below hb1
    obtain ⟨cur, hbc, hcc, hct, hcn, hcx⟩ := own_blk1 h1.c
    refine ⟨cur, hbc, by rw [ivals_length]; omega, fun w3 hb3 hg3 => ?_⟩
    have hgc : g ≠ rc := fun e => own_blk_ne h1.c h1.blk (by decide) (by rw [e]; rfl)
    have hc3 := own_splice1 h1.c hbc hb3 (by rw [ivals_length]; omega)
    have hml : (putC a.cells a.l[i].f ys).length = a.cells.length := by unfold putC; simp only [List.length_append, List.length_take, List.length_drop]; omega
    refine ⟨_, vl, rfl, ⟨h1.blk.grown hg3 (by simpa using hgc), ?_, ?_⟩, (Frm.of_below hb1).grown hg3 (fun b hb => .inl (by injection hb with hb; subst hb; simp [Value.ownBlock])), .inl rfl, .inl rfl⟩
    · show World.ownsRow _ 0 59 1 _ (putC a.cells a.l[i].f ys).length (ivals (putC a.cells a.l[i].f ys))
      rw [hml]
      have : ivals (putC a.cells a.l[i].f ys) = splice (ivals a.cells) a.l[i].f (ivals ys) := by unfold putC splice ivals; simp [List.map_append, List.map_take, List.map_drop]
      rw [this]
      exact hc3
    · exact ((Frm.refl [some rc] w1).grown hg3 (fun k hk => .inl (by rw [← hk]; simp))).own h1.l (fun b hb => by
        simp only [List.mem_singleton]
        intro he
        injection he with he
        subst he
        exact own_own_ne h1.c h1.l (by decide) b rfl hb)
  have hsr : ∀ w1, Below w.heap.size w w1 → ∀ j u, (ivals ys)[j]? = some u → w1.cell? ⟨sb, so + j, none⟩ = some u := fun w1 hb1 j u hu => (hb1.cell (p := ⟨sb, so + j, none⟩) hsb).trans (hys j u hu)
  have HFI := Lib.hid hF; have HO := Lib.hid hO; have HFN := Lib.hid hfin; have HSR := Lib.hid hsr
  clear hF hO hA hq hgd hfin hsr hys
  generalize a.l[i] = q at *
  obtain ⟨qh, qf, qw⟩ := q
  simp only at *
  subst hm
  go_enter Try.func14, Try.ntmps14
  go_wp2_with (first
    | (go_at_call 18; refine HFI.out.mono ?_; rintro e w1 ⟨rfl, hb1⟩; have HB1 := Lib.hid (hb1.alloc hb1.size (.cells #[.int .i64 qh, .int .i64 qf, .int .i64 m] 45)); clear hb1)
    | (go_at_call 33; refine (HO.out _ HB1.out).mono ?_; rintro e w2 ⟨rfl, hb2⟩; have HB2 := Lib.hid (HB1.out.trans (hb2.mono HB1.out.size)); obtain ⟨cur, k1, k2, k3⟩ := HFN.out w2 HB2.out; have HK1 := Lib.hid k1; have HK2 := Lib.hid k2; have HK3 := Lib.hid k3; clear hb2 k1 k2 k3))
  rw [run_copy_blk w2 _ _ 59 i0 1 Try.underlying23 hi0 hz1 rc qf m (cc - qf) sb so m c cur 59 (ivals ys) m HK1.out (by simp) (by rw [ivals_length]; omega) (HSR.out _ HB2.out) HK2.out (ivals_one ys)]
  have HFF := Lib.hid (HK3.out _ (setRow_heap w2 rc _ _ 59 _ HK1.out) (setRow_grown w2 rc _))
  simp only [Result.andThen_ok, Oper.upon]
  go_wp2_with fail
  go_ret
  exact HFF.out
end Go.Proofs.Ytpjgoiogpgggeaa
