/- slices.Insert (one value), slices.Delete (one element) and slices.Clone at slices of structs that their caller owns. Conditions: each theorem's own. -/
import Derived.Test.YtpjgoiogpgggeaaRows
import Derived.Test.YtpjgoiogpgggeaaSl
namespace Go.Proofs.Ytpjgoiogpgggeaa
open Go.RowKit

/-- What stands in a row behind an insert. -/
def insAt (xs : List Value) (k : Nat) (vs : List Value) : List Value := xs.take k ++ vs ++ xs.drop k

structure InsPost (w : World) (e : TypeId) (sz : Nat) (v : Value) (n i : Nat) (xs vs : List Value) (r : Ending) (w' : World) : Prop where
  ex : ∃ v', r = .returned v' ∧ w'.ownsRow 0 e sz v' (n + 1) (insAt xs (i * sz) vs) ∧ Frm [v.ownBlock] w w' ∧ (v'.ownBlock = v.ownBlock ∨ ∀ b, v'.ownBlock = some b → w.heap.size ≤ b)

theorem ins_splice (cur xs vs : List Value) (a n s : Nat) (ha : a ≤ n) (hn : n + s ≤ cur.length) (hv : vs.length = s) (ht : cur.take n = xs) (b : Nat) (hb : b = a + s) (m : Nat) (hm : m = n + s) :
    (splice (splice cur b (xs.drop a)) a vs).toArray.toList.take m = insAt xs a vs := by
  subst hb; subst hm
  have hxl : xs.length = n := by rw [← ht, List.length_take]; omega
  have e1 : xs.take a = cur.take a := by rw [← ht, List.take_take]; congr 1; omega
  have e2 : (splice cur (a + s) (xs.drop a)).take a = cur.take a := by
    rw [splice, List.take_append_of_le_length (by rw [List.length_take]; omega), List.take_take]
    congr 1; omega
  have e3 : (splice cur (a + s) (xs.drop a)).drop (a + vs.length) = xs.drop a ++ cur.drop (a + s + (xs.drop a).length) := by
    rw [splice, hv]
    exact List.drop_left' (by rw [List.length_take]; omega)
  rw [splice, e2, e3]
  simp only [insAt, e1]
  rw [← List.append_assoc, ← List.append_assoc]
  have : (cur.take a ++ vs ++ xs.drop a).length = n + s := by simp [hxl, hv]; omega
  rw [← this]
  exact List.take_left

theorem grow_splice (Z xs vs : List Value) (a n s : Nat) (ha : a ≤ n) (hn : n + s ≤ Z.length) (hv : vs.length = s) (hxl : xs.length = n) (ht : Z.take a = xs.take a) (b : Nat) (hb : b = a + s) (m : Nat) (hm : m = n + s) :
    (splice (splice Z a vs) b (xs.drop a)).toArray.toList.take m = insAt xs a vs := by
  subst hb; subst hm
  have e2 : (splice Z a vs).take (a + s) = Z.take a ++ vs := by
    rw [splice, ← List.append_assoc]
    exact List.take_left' (by rw [List.length_append, List.length_take, hv]; omega)
  rw [splice, e2, ht]
  simp only [insAt]
  rw [← List.append_assoc]
  exact List.take_left' (by simp [hxl, hv]; omega)

structure DelPost (w : World) (e : TypeId) (sz : Nat) (v : Value) (n i : Nat) (xs : List Value) (r : Ending) (w' : World) : Prop where
  ex : ∃ v', r = .returned v' ∧ w'.ownsRow 0 e sz v' (n - 1) (xs.take (i * sz) ++ xs.drop ((i + 1) * sz)) ∧ Frm [v.ownBlock] w w' ∧ v'.ownBlock = v.ownBlock

theorem del_splice (cur xs zs : List Value) (a n s : Nat) (ha : a + s ≤ n) (hn : n ≤ cur.length) (ht : cur.take n = xs) (hz : zs.length = s) (b : Nat) (hb : b = a + s) (m : Nat) (hm : m + s = n) :
    (splice (splice cur a (xs.drop b)) m zs).toArray.toList.take m = xs.take a ++ xs.drop b := by
  subst hb; subst hm
  have hxl : xs.length = m + s := by rw [← ht, List.length_take]; omega
  have e1 : xs.take a = cur.take a := by rw [← ht, List.take_take]; congr 1; omega
  have hl : (cur.take a ++ xs.drop (a + s)).length = m := by simp [hxl]; omega
  show (splice (splice cur a (xs.drop (a + s))) m zs).take m = _
  have e2 : (splice cur a (xs.drop (a + s))).take m = cur.take a ++ xs.drop (a + s) := by
    rw [splice, ← List.append_assoc]
    exact List.take_left' hl
  rw [splice, e2, e1]
  exact List.take_left' hl

structure ClonePost (w : World) (e : TypeId) (sz n : Nat) (xs : List Value) (r : Ending) (w' : World) : Prop where
  ex : ∃ v', r = .returned v' ∧ w'.ownsRow 0 e sz v' n xs ∧ Below w.heap.size w w' ∧ ∀ b, v'.ownBlock = some b → w.heap.size ≤ b

theorem length_of_own {w : World} {base e sz n : Nat} {v : Value} {xs : List Value} (h : w.ownsRow base e sz v n xs) : xs.length = n * sz := h.1

theorem info_block : ∃ z, (Try.prog.info? 45).map (fun i => (i.zero, i.size, i.bytes, z.cells.size)) = some (some z, 3, 24, 3) ∧ ∀ u ∈ z.cells, u.oneCell' = true := ⟨.agg #[.int .i64 0, .int .i64 0, .int .i64 0], by kernel_rfl, by simp [Value.cells, Value.oneCell']⟩

set_option maxRecDepth 100000 in
set_option maxHeartbeats 400000 in
/-- Insert behind the last element. -/
theorem ins_end_block (v : Value) (n : Nat) (xs vs : List Value) (vb : Nat) (w : World) (hn : n ≤ 1000000) (hown : w.ownsRow 0 45 3 v n xs) (hv : Blk w vb 45 vs.toArray) (hvl : vs.length = 3)
    (h1 : ∀ u ∈ vs, u.oneCell' = true) :
    Calls Try.prog 28 #[v, .int .i64 n, .slice (some ⟨vb, 0, none⟩) 1 1] w (InsPost w 45 3 v n n xs vs) := by
  have hcl := length_of_own hown
  obtain ⟨z, hi, hz1c⟩ := info_block
  obtain ⟨i0, hi0, hz0, hz1, hz2, hz3⟩ := info_parts4 hi
  have hfin : ∀ v' w', w'.ownsRow 0 45 3 v' (n + 1) (xs ++ vs) → w.grownBy w' v.ownBlock → (v'.ownBlock = v.ownBlock ∨ v'.ownBlock = some w.heap.size) → InsPost w 45 3 v n n xs vs (.returned v') w' := fun v' w' h1 h2 h3 =>
    ⟨v', rfl, by rw [insAt, List.take_of_length_le (by omega), List.drop_of_length_le (by omega)]; simpa using h1, (Frm.refl _ _).grown h2 (fun k hk => .inl (by simp [hk])), by
      rcases h3 with h3 | h3
      · exact .inl h3
      · exact .inr fun b hb => by rw [h3] at hb; injection hb with hb; omega⟩
  have HF := Lib.hid hfin; have HO := Lib.hid hown; have HC := Lib.hid hcl; have HV := Lib.hid hv; have HVL := Lib.hid hvl; have H1 := Lib.hid h1
  clear hfin hcl hv hvl h1
  rcases hown.2 with ⟨rfl, rfl⟩ | ⟨g, cap, cur, rfl, _, hg, hnc, hcm, hcs, ht⟩
  · clear hown
    go_enter Try.func28, Try.ntmps28
    go_wp2_with (at_builtin; refine wpList_append_rd _ rfl (.tmp 23) (.tmp 24) _ rfl 45 i0 z 3 24 Try.underlying60 hi0 hz0 hz1 hz2 hz3 (by omega) (.slice none 0 0) 0 xs rfl HO.out w.heap.size (some ⟨vb, 0, none⟩) 1 1 vs rfl (Reads.of_blk HV.out (by rw [HVL.out])) H1.out (by unfold maxLen; omega) (by omega) ?_; intro v' w' h1 h2 h3)
    go_ret
    exact HF.out _ _ (by simpa using h1) h2 h3
  · clear hown hg hcs ht
    unfold maxLen at hcm
    by_cases hcn : cap = n
    all_goals try subst hcn
    all_goals go_enter Try.func28, Try.ntmps28
    all_goals go_wp2_with (at_builtin; refine wpList_append_rd _ rfl (.tmp 23) (.tmp 24) _ rfl 45 i0 z 3 24 Try.underlying60 hi0 hz0 hz1 hz2 hz3 (by omega) (.slice (some ⟨g, 0, none⟩) _ _) _ xs rfl HO.out w.heap.size (some ⟨vb, 0, none⟩) 1 1 vs rfl (Reads.of_blk HV.out (by rw [HVL.out])) H1.out (by unfold maxLen; omega) (by omega) ?_; intro v' w' h1 h2 h3)
    all_goals go_ret
    all_goals exact HF.out _ _ h1 h2 h3
set_option maxRecDepth 100000 in
set_option maxHeartbeats 400000 in
/-- Insert ahead of an element, in place. -/
theorem ins_shift_block (g cap n i : Nat) (cur xs vs : List Value) (vb : Nat) (w : World) (hn : n ≤ 1000000) (hin : i < n) (hroom : n + 1 ≤ cap) (hcm : cap ≤ maxLen) (hg : Blk w g 45 cur.toArray) (hcs : cur.length = cap * 3) (ht : cur.take (n * 3) = xs)
    (hv : Blk w vb 45 vs.toArray) (hvl : vs.length = 3) (hvg : vb ≠ g) (hx1 : ∀ u ∈ xs, u.oneCell' = true) (h1 : ∀ u ∈ vs, u.oneCell' = true) :
    Calls Try.prog 28 #[.slice (some ⟨g, 0, none⟩) n cap, .int .i64 i, .slice (some ⟨vb, 0, none⟩) 1 1] w (InsPost w 45 3 (.slice (some ⟨g, 0, none⟩) n cap) n i xs vs) := by
  obtain ⟨z, hi, hz1c⟩ := info_block
  obtain ⟨i0, hi0, hz0, hz1, hz2, hz3⟩ := info_parts4 hi
  have hxl : xs.length = n * 3 := by rw [← ht, List.length_take]; omega
  have hov : ∀ lb cb, (callFunc 42 #[.slice (some ⟨vb, 0, none⟩) 1 1, .slice (some ⟨g, (i + 1) * 3, none⟩) lb cb]).run Try.prog w = .ok (.value (.bool false)) w := fun lb cb => by
    rw [run_callFunc_extern Try.func42 (by kernel_rfl) (by kernel_rfl) (by kernel_rfl) (e := Extern.SlicesOverlaps.overlaps #[60, 60] #[4]) (by kernel_rfl),
      Lib.run_overlaps_apart w 60 4 45 Try.underlying60 3 (fun w => by simp [sizeOf, typeInfo, hi0, hz1]) ⟨vb, 0, none⟩ ⟨g, (i + 1) * 3, none⟩ 1 1 lb cb hvg 45 45 3 (cap * 3) (by unfold Blk at hv; simp [World.shape?, hv, hvl]) (by unfold Blk at hg; simp [World.shape?, hg, hcs]) (by omega) (hv.frozen _) (hv.frozen _)]
    rfl
  have hcsl : (xs.drop (i * 3)).length = (n - i) * 3 := by rw [List.length_drop, hxl, Nat.sub_mul]
  have hsrc : ∀ j u, (xs.drop (i * 3))[j]? = some u → w.cell? ⟨g, i * 3 + j, none⟩ = some u := fun j u hu => by
    rw [hg.cell]
    rw [List.getElem?_drop, ← ht, List.getElem?_take] at hu
    split at hu
    · simpa using hu
    · cases hu
  have hfin : ∀ w1 w', w.grownBy w1 (some g) → w1.grownBy w' (some g) → Blk w' g 45 (splice (splice cur ((i + 1) * 3) (xs.drop (i * 3))) (i * 3) vs).toArray →
      InsPost w 45 3 (.slice (some ⟨g, 0, none⟩) n cap) n i xs vs (.returned (.slice (some ⟨g, 0, none⟩) (n + 1) cap)) w' := fun w1 w' h1 h2 hb => by
    refine ⟨_, rfl, ⟨by simp [insAt, hcsl, hvl, hxl]; omega, .inr ⟨g, cap, _, rfl, Nat.zero_le _, hb, hroom, hcm, ?_, ?_⟩⟩, ?_, .inl rfl⟩
    · simp only [List.size_toArray]
      rw [length_splice _ _ _ (by rw [length_splice _ _ _ (by rw [hcsl, hcs]; omega), hvl, hcs]; omega), length_splice _ _ _ (by rw [hcsl, hcs]; omega), hcs]
    · exact ins_splice cur xs vs (i * 3) (n * 3) 3 (by omega) (by rw [hcs]; omega) hvl ht _ (by omega) _ (by omega)
    · exact ((Frm.refl _ _).grown h1 (fun k hk => .inl (by simpa [Value.ownBlock] using hk.symm))).grown h2 (fun k hk => .inl (by simpa [Value.ownBlock] using hk.symm))
  have hcl2 : (splice cur ((i + 1) * 3) (xs.drop (i * 3))).length = cap * 3 := by rw [length_splice _ _ _ (by rw [hcsl, hcs]; omega), hcs]
  unfold maxLen at hcm
  have HF := Lib.hid hfin; have HV := Lib.hid hv; have HVL := Lib.hid hvl; have H1 := Lib.hid h1; have HG := Lib.hid hg; have HC := Lib.hid hcsl; have HCS := Lib.hid hcs; have HX := Lib.hid hx1; have HS := Lib.hid hsrc; have HL2 := Lib.hid hcl2
  clear hfin hv hvl h1 hg hcsl hcs hx1 hsrc ht hxl hcl2
  go_enter Try.func28, Try.ntmps28
  go_wp2_with (simp only [hov])
  have hw1 : IntKind.i64.wrap ((i : Int) + 1) = (i : Int) + 1 := by rw [IntKind.wrap_i64]; omega
  have hq1 : (0 : Int) ≤ (i : Int) + 1 := by omega
  have hq2 : (i : Int) + 1 ≤ (n : Int) + 1 := by omega
  have hq3 : ((i : Int) + 1).toNat = i + 1 := by omega
  have hq4 : ¬ (cap = i + 1) := by omega
  have hq5 : ¬ (cap = i) := by omega
  have hq6 : (i : Int) ≤ (n : Int) + 1 := by omega
  go_region_law (refine step_copy_blk _ rfl (.tmp 73) (.tmp 76) _ rfl 45 i0 3 Try.underlying60 hi0 hz1 g ((i + 1) * 3) (n - i) (cap - (i + 1)) g (i * 3) (n + 1 - i) (cap - i) (by simp [Act.eval, Act.put]) (by simp [Act.eval, Act.put]) cur 45 (xs.drop (i * 3)) (n - i) HG.out (by omega) HC.out HS.out (by rw [HC.out, HCS.out]; omega) (fun u hu => HX.out u (List.mem_of_mem_drop hu)) ?_; intro w1 hb1 hg1)
  have HB1 := Lib.hid hb1; have HG1 := Lib.hid (grownBy_of_drew hg1); clear hb1 hg1
  go_wp2_with (refine wpList_copy_blk _ rfl (.tmp 80) (.tmp 81) _ rfl 45 i0 3 Try.underlying60 hi0 hz1 g (i * 3) (n + 1 - i) (cap - i) vb 0 1 1 rfl rfl _ 45 vs 1 HB1.out (by omega) (by rw [HVL.out]) (fun j u hu => by rw [Nat.zero_add, (Blk.grown HV.out HG1.out (by simpa using hvg)).cell]; simpa using hu) (by rw [HL2.out, HVL.out]; omega) H1.out ?_; intro w2 hb2 hg2)
  go_ret
  exact HF.out _ _ HG1.out hg2 hb2
set_option maxRecDepth 100000 in
set_option maxHeartbeats 400000 in
/-- Insert ahead of an element, into a new row. -/
theorem ins_grow_block (g n i : Nat) (cur xs vs : List Value) (vb : Nat) (w : World) (hn : n ≤ 1000000) (hin : i < n) (hg : Blk w g 45 cur.toArray) (hcs : cur.length = n * 3) (ht : cur.take (n * 3) = xs)
    (hv : Blk w vb 45 vs.toArray) (hvl : vs.length = 3) (hx1 : ∀ u ∈ xs, u.oneCell' = true) (h1 : ∀ u ∈ vs, u.oneCell' = true) :
    Calls Try.prog 28 #[.slice (some ⟨g, 0, none⟩) n n, .int .i64 i, .slice (some ⟨vb, 0, none⟩) 1 1] w (InsPost w 45 3 (.slice (some ⟨g, 0, none⟩) n n) n i xs vs) := by
  obtain ⟨z, hi, hz1c⟩ := info_block
  obtain ⟨i0, hi0, hz0, hz1, hz2, hz3⟩ := info_parts4 hi
  have hxc : cur = xs := by rw [← ht, ← hcs, List.take_length]
  subst hxc
  clear ht
  have hxl := hcs
  have hold : (Builtin.firstCells i0.size i (.slice (some ⟨g, 0, none⟩) i n)).run Try.prog w.drew = .ok (cur.take (i * 3)).toArray w.drew := by
    rw [hz1]
    exact run_firstCells_some w.drew 3 i ⟨g, 0, none⟩ i n (cur.take (i * 3)) (by rw [List.length_take]; omega) (fun j u hj => by
      rw [Addr.add_lit, Nat.zero_add, (Blk.drew hg).cell]
      rw [List.getElem?_take] at hj
      split at hj
      · simpa using hj
      · cases hj)
  have hfin : ∀ w1 w2 w' g' cap Z, g' = w.heap.size → n + 1 ≤ cap → cap ≤ maxLen → Z.length = cap * 3 → Z.take (i * 3) = cur.take (i * 3) → Frm [] w w1 → Blk w1 g' 45 Z.toArray → w1.grownBy w2 (some g') → w2.grownBy w' (some g') →
      Blk w' g' 45 (splice (splice Z (i * 3) vs) ((i + 1) * 3) (cur.drop (i * 3))).toArray →
      InsPost w 45 3 (.slice (some ⟨g, 0, none⟩) n n) n i cur vs (.returned (.slice (some ⟨g', 0, none⟩) (n + 1) cap)) w' := fun w1 w2 w' g' cap Z hg' hnc hcm hZ hZt hw1 hb1 h1 h2 hb => by
    subst hg'
    refine ⟨_, rfl, ⟨by simp [insAt, hvl, hxl]; omega, .inr ⟨_, cap, _, rfl, Nat.zero_le _, hb, hnc, hcm, ?_, ?_⟩⟩, ?_, .inr fun b hb => by simp [Value.ownBlock] at hb; omega⟩
    · simp only [List.size_toArray]
      rw [length_splice _ _ _ (by rw [length_splice _ _ _ (by rw [hvl, hZ]; omega), List.length_drop, hxl, hZ]; omega), length_splice _ _ _ (by rw [hvl, hZ]; omega), hZ]
    · exact grow_splice Z cur vs (i * 3) (n * 3) 3 (by omega) (by rw [hZ]; omega) hvl hxl hZt _ (by omega) _ (by omega)
    · exact ((hw1.mono (by simp)).grown h1 (fun k hk => .inr (by simp at hk; omega))).grown h2 (fun k hk => .inr (by simp at hk; omega))
  have hlen : cur.drop (i * 3) = cur.drop (i * 3) ∧ (cur.drop (i * 3)).length = (n - i) * 3 := ⟨rfl, by rw [List.length_drop, hxl, Nat.sub_mul]⟩
  have hrz : ∀ ty, ∃ G, n + 1 ≤ G ∧ G ≤ maxLen ∧ (Builtin.append_ #[60, 3] ty #[.slice (some ⟨g, 0, none⟩) i n, .int .i64 ((n : Int) + 1 - (i : Int))]).run Try.prog w =
      .ok (.slice (some ⟨w.heap.size, 0, none⟩) (n + 1) G) (w.drew.alloc (.cells ((cur.take (i * 3)).toArray ++ Builtin.zeroCells z.cells (n + 1 - i) ++ Builtin.zeroCells z.cells (G - (n + 1))) 45)) := fun ty => by
    have hik : i + (n + 1 - i) = n + 1 := by omega
    have h := Lib.run_append_grow_zeros w 60 3 ty 45 i0 _ .i64 .i64 Try.underlying60 Try.underlying3 hi0 hz0 (some ⟨g, 0, none⟩) i n (cur.take (i * 3)) hold (n + 1 - i) (by omega) (by omega) (by omega) (by omega) (by rw [hz2]; omega) (by rw [hz2, hik]; exact growslice_fits (by omega) (by omega))
    rw [hik] at h
    rw [show (n : Int) + 1 - (i : Int) = ((n + 1 - i : Nat) : Int) from by omega]
    exact ⟨_, grownCap_ge _ _ _ _, grownCap_le_maxLen _ _ _ _ (by unfold maxLen; omega), h⟩
  obtain ⟨G, hG1, hG2, hrz⟩ := hrz 60
  obtain ⟨Z, hZ⟩ : ∃ Z : List Value, Z.toArray = (cur.take (i * 3)).toArray ++ Builtin.zeroCells z.cells (n + 1 - i) ++ Builtin.zeroCells z.cells (G - (n + 1)) := ⟨_, Array.toArray_toList⟩
  rw [← hZ] at hrz
  have hZl : Z.length = G * 3 := by
    have := congrArg Array.size hZ
    simp [Builtin.zeroCells, hz3, hxl] at this
    omega
  have hZt : Z.take (i * 3) = cur.take (i * 3) := by
    have := congrArg Array.toList hZ
    simp only [Array.toList_append, List.append_assoc] at this
    rw [show Z = Z.toArray.toList from rfl, this]
    exact List.take_left' (by rw [List.length_take]; omega)
  obtain ⟨W1, hW1⟩ : ∃ W1, W1 = w.drew.alloc (.cells Z.toArray 45) := ⟨_, rfl⟩
  rw [← hW1] at hrz
  have hB1 : Blk W1 w.heap.size 45 Z.toArray := by rw [hW1]; exact Blk.new _ _ _
  have hF1 : Frm [] w W1 := by rw [hW1]; exact ((Frm.refl [] w).drew).alloc _
  have hgl := hg.lt
  have hvl' := hv.lt
  have hHF : ∀ w2 w', W1.grownBy w2 (some w.heap.size) → w2.grownBy w' (some w.heap.size) → Blk w' w.heap.size 45 (splice (splice Z (i * 3) vs) ((i + 1) * 3) (cur.drop (i * 3))).toArray → InsPost w 45 3 (.slice (some ⟨g, 0, none⟩) n n) n i cur vs (.returned (.slice (some ⟨w.heap.size, 0, none⟩) (n + 1) G)) w' :=
    fun w2 w' => hfin W1 w2 w' _ G Z rfl hG1 hG2 hZl hZt hF1 hB1
  unfold maxLen at hG2
  have hV1 := hv.frm hF1 (by simp); have hG3 := hg.frm hF1 (by simp)
  obtain ⟨N, hN⟩ : ∃ N, N = w.heap.size := ⟨_, rfl⟩
  rw [← hN] at hrz hB1 hHF hgl hvl'
  have HRZ := Lib.hid hrz; have HB1 := Lib.hid hB1; have HHF := Lib.hid hHF; have HV := Lib.hid hV1; have HG := Lib.hid hG3; have HL := Lib.hid hlen.2; have HVL := Lib.hid hvl; have HX := Lib.hid hx1; have H1 := Lib.hid h1; have HZL := Lib.hid hZl
  have HN := Lib.hid hN; have HVN : Hid (vb ≠ N) := by unfold Hid; omega
  have HGN : Hid (g ≠ N) := by unfold Hid; omega
  clear hrz hB1 hHF hV1 hG3 hlen hvl hx1 h1 hZl hN hfin hold hZt hZ hW1 hF1 hg hv hcs hxl hgl hvl'
  go_enter Try.func28, Try.ntmps28
  have hw1 : IntKind.i64.wrap ((i : Int) + 1) = (i : Int) + 1 := by rw [IntKind.wrap_i64]; omega
  have hq1 : (0 : Int) ≤ (i : Int) + 1 := by omega
  have hq2 : (i : Int) + 1 ≤ (n : Int) + 1 := by omega
  have hq3 : ((i : Int) + 1).toNat = i + 1 := by omega
  have hq4 : ¬ (G = i + 1) := by omega
  have hq5 : ¬ (G = i) := by omega
  have hq6 : (i : Int) ≤ (n : Int) + 1 := by omega
  have hq7 : ¬ (n = i) := by omega
  have hq8 : (i : Int) ≤ (n : Int) := by omega
  go_wp2_with (first
    | (at_builtin; refine wpList_append_r _ rfl (.tmp 34) (.tmp 39) 60 3 rfl rfl rfl HRZ.out ?_)
    | (refine wpList_copy_blk _ rfl (.tmp 43) (.tmp 44) _ rfl 45 i0 3 Try.underlying60 hi0 hz1 N (i * 3) (n + 1 - i) (G - i) vb 0 1 1 rfl rfl Z 45 vs 1 HB1.out (by omega) (by rw [HVL.out]) (fun j u hu => by rw [Nat.zero_add, HV.out.cell]; simpa using hu) (by rw [HZL.out, HVL.out]; omega) H1.out ?_; intro w2 hb2 hg2; have HB2 := Lib.hid hb2; have HG2 := Lib.hid hg2; clear hb2 hg2))
  have HG3 := Lib.hid (Blk.grown HG.out HG2.out (by simpa using HGN.out))
  have HZ2 : Hid ((splice Z (i * 3) vs).length = G * 3) := by unfold Hid; rw [length_splice _ _ _ (by rw [HZL.out, HVL.out]; omega), HZL.out]
  go_region_law (refine step_copy_blk _ rfl (.tmp 50) (.tmp 53) _ rfl 45 i0 3 Try.underlying60 hi0 hz1 N ((i + 1) * 3) (n - i) (G - (i + 1)) g (i * 3) (n - i) (n - i) (by simp [Act.eval, Act.put]) (by simp [Act.eval, Act.put]) _ 45 (cur.drop (i * 3)) (n - i) HB2.out (by omega) HL.out (fun j u hu => by rw [Blk.cell (Blk.drew HG3.out)]; rw [List.getElem?_drop] at hu; simpa using hu) (by rw [HZ2.out, HL.out]; omega) (fun u hu => HX.out u (List.mem_of_mem_drop hu)) ?_; intro w3 hb3 hg3)
  go_wp2
  go_ret
  exact HHF.out _ _ HG2.out (grownBy_of_drew hg3) hb3
/-- slices.Insert of one value. -/
theorem ins_block (v : Value) (n i : Nat) (xs vs : List Value) (vb : Nat) (w : World) (hn : n ≤ 1000000) (hin : i ≤ n) (hown : w.ownsRow 0 45 3 v n xs) (hv : Blk w vb 45 vs.toArray) (hvl : vs.length = 3)
    (hvg : v.ownBlock ≠ some vb) (hx1 : ∀ u ∈ xs, u.oneCell' = true) (h1 : ∀ u ∈ vs, u.oneCell' = true) :
    Calls Try.prog 28 #[v, .int .i64 i, .slice (some ⟨vb, 0, none⟩) 1 1] w (InsPost w 45 3 v n i xs vs) := by
  rcases Nat.eq_or_lt_of_le hin with rfl | hlt
  · exact ins_end_block v i xs vs vb w hn hown hv hvl h1
  · rcases hown.2 with ⟨_, h0⟩ | ⟨g, cap, cur, rfl, _, hg, hnc, hcm, hcs, ht⟩
    · omega
    · have hne : vb ≠ g := fun e => hvg (by simp [Value.ownBlock, e])
      by_cases hr : n + 1 ≤ cap
      · exact ins_shift_block g cap n i cur.toList xs vs vb w hn hlt hr hcm hg (by simpa using hcs) ht hv hvl hne hx1 h1
      · obtain rfl : cap = n := by omega
        exact ins_grow_block g cap i cur.toList xs vs vb w hn hlt hg (by simpa using hcs) ht hv hvl hx1 h1

set_option maxRecDepth 100000 in
set_option maxHeartbeats 400000 in
/-- slices.Delete of one element. -/
theorem del_block (v : Value) (n i : Nat) (xs : List Value) (w : World) (hn : n ≤ 1000000) (hin : i < n) (hown : w.ownsRow 0 45 3 v n xs) (hx1 : ∀ u ∈ xs, u.oneCell' = true) :
    Calls Try.prog 32 #[v, .int .i64 i, .int .i64 ((i : Int) + 1)] w (DelPost w 45 3 v n i xs) := by
  obtain ⟨z, hi, hz1c⟩ := info_block
  obtain ⟨i0, hi0, hz0, hz1, hz2, hz3⟩ := info_parts4 hi
  have hxl := hown.1
  rcases hown.2 with ⟨rfl, h0⟩ | ⟨g, cap, cur, rfl, _, hg, hnc, hcm, hcs, ht⟩
  · omega
  obtain ⟨cur⟩ := cur
  have hgb : Blk w g 45 cur.toArray := hg
  have hcs' : cur.length = cap * 3 := by simpa using hcs
  have hdl : (xs.drop ((i + 1) * 3)).length = (n - (i + 1)) * 3 := by rw [List.length_drop, hxl, Nat.sub_mul]
  have hsrc : ∀ j u, (xs.drop ((i + 1) * 3))[j]? = some u → w.cell? ⟨g, (i + 1) * 3 + j, none⟩ = some u := fun j u hu => by
    rw [hgb.cell]
    rw [List.getElem?_drop, ← ht, List.getElem?_take] at hu
    split at hu
    · simpa using hu
    · cases hu
  have hl1 : (splice cur (i * 3) (xs.drop ((i + 1) * 3))).length = cap * 3 := by rw [length_splice _ _ _ (by rw [hdl, hcs']; omega), hcs']
  have hfin : ∀ w1 w', w.grownBy w1 (some g) → w1.grownBy w' (some g) → Blk w' g 45 (splice (splice cur (i * 3) (xs.drop ((i + 1) * 3))) ((n - 1) * 3) (Builtin.zeroCells z.cells 1).toList).toArray →
      DelPost w 45 3 (.slice (some ⟨g, 0, none⟩) n cap) n i xs (.returned (.slice (some ⟨g, 0, none⟩) (n - 1) cap)) w' := fun w1 w' h1 h2 hb => by
    have hzl : (Builtin.zeroCells z.cells 1).toList.length = 3 := by simp [Builtin.zeroCells, hz3]
    refine ⟨_, rfl, ⟨by simp [hxl]; omega, .inr ⟨g, cap, _, rfl, Nat.zero_le _, hb, by omega, hcm, ?_, ?_⟩⟩, ?_, rfl⟩
    · simp only [List.size_toArray]
      rw [length_splice _ _ _ (by rw [hl1, hzl]; omega), hl1]
    · exact del_splice cur xs _ (i * 3) (n * 3) 3 (by omega) (by rw [hcs']; omega) (by simpa using ht) hzl _ (by omega) _ (by omega)
    · exact ((Frm.refl _ _).grown h1 (fun k hk => .inl (by simpa [Value.ownBlock] using hk.symm))).grown h2 (fun k hk => .inl (by simpa [Value.ownBlock] using hk.symm))
  unfold maxLen at hcm
  have HF := Lib.hid hfin; have HG := Lib.hid hgb; have HL1 := Lib.hid hl1; have HDL := Lib.hid hdl; have HS := Lib.hid hsrc; have HX := Lib.hid hx1; have HCS := Lib.hid hcs'; have HZ := Lib.hid hz1c; have HZ3 := Lib.hid hz3
  clear hfin hgb hl1 hdl hsrc hx1 hcs' hz1c hown hg hcs ht hxl hz3
  have hw1 : IntKind.i64.wrap ((i : Int) + 1) = (i : Int) + 1 := by rw [IntKind.wrap_i64]; omega
  have hq1 : (0 : Int) ≤ (i : Int) + 1 := by omega
  have hq3 : ((i : Int) + 1).toNat = i + 1 := by omega
  have hq6 : (i : Int) ≤ (n : Int) := by omega
  have hq7 : (i : Int) + 1 ≤ (n : Int) := by omega
  have hq8 : ((i : Int) == (i : Int) + 1) = false := by rw [beq_eq_false_iff_ne]; omega
  by_cases hcap : cap = i + 1
  · obtain rfl : n = i + 1 := by omega
    subst hcap
    have hD0 : xs.drop ((i + 1) * 3) = [] := List.eq_nil_of_length_eq_zero (by rw [HDL.out]; simp)
    have HD0 := Lib.hid hD0; clear hD0
    have hqa : (i : Int) ≤ (i : Int) + 1 := by omega
    go_enter Try.func32, Try.ntmps32
    go_wp2_with fail
    go_region_law (refine step_append_blk _ rfl (.tmp 22) (.tmp 25) _ rfl 45 i0 3 Try.underlying60 hi0 hz1 g i (i + 1) ⟨g, 0, none⟩ 0 0 (by simp [Act.eval, Act.put]) (by simp [Act.eval, Act.put]) cur HG.out (xs.drop ((i + 1) * 3)) (by rw [HDL.out]; omega) (fun j u hu => by rw [HD0.out] at hu; simp at hu) (fun u hu => HX.out u (List.mem_of_mem_drop hu)) (by omega) (by rw [HDL.out, HCS.out]; omega) ?_; intro w1 hb1 hg1)
    have HB1 := Lib.hid hb1; have HG1 := Lib.hid (grownBy_of_drew hg1); clear hb1 hg1
    go_wp2_with (refine wpList_clear_blk _ rfl (.tmp 31) _ rfl 45 i0 z Try.underlying60 hi0 hz0 g (i * 3) 1 1 rfl _ 45 HB1.out (by rw [HL1.out, HZ3.out]; omega) HZ.out ?_; intro w2 hb2 hg2)
    go_ret
    exact HF.out _ _ HG1.out hg2 hb2
  · have hq9 : (i : Int) + 1 ≤ (cap : Int) := by omega
    have hqa : i ≤ cap := by omega
    go_enter Try.func32, Try.ntmps32
    go_wp2_with fail
    go_region_law (refine step_append_blk _ rfl (.tmp 22) (.tmp 25) _ rfl 45 i0 3 Try.underlying60 hi0 hz1 g i cap ⟨g, (i + 1) * 3, none⟩ (n - (i + 1)) (cap - (i + 1)) (by simp [Act.eval, Act.put]) (by simp [Act.eval, Act.put]) cur HG.out (xs.drop ((i + 1) * 3)) HDL.out (fun j u hu => by rw [Addr.add_lit]; exact HS.out j u hu) (fun u hu => HX.out u (List.mem_of_mem_drop hu)) (by omega) (by rw [HDL.out, HCS.out]; omega) ?_; intro w1 hb1 hg1)
    have HB1 := Lib.hid hb1; have HG1 := Lib.hid (grownBy_of_drew hg1); clear hb1 hg1
    have hn1 : i + (n - (i + 1)) = n - 1 := by omega
    have hn2 : n - (n - 1) = 1 := by omega
    have hn3 : (n : Int) - 1 ≤ (n : Int) := by omega
    go_wp2_with (refine wpList_clear_blk _ rfl (.tmp 31) _ rfl 45 i0 z Try.underlying60 hi0 hz0 g ((n - 1) * 3) 1 (cap - (n - 1)) rfl _ 45 HB1.out (by rw [HL1.out, HZ3.out]; omega) HZ.out ?_; intro w2 hb2 hg2)
    go_ret
    exact HF.out _ _ HG1.out hg2 hb2
set_option maxRecDepth 100000 in
set_option maxHeartbeats 400000 in
/-- slices.Clone. -/
theorem clone_block (v : Value) (n : Nat) (xs : List Value) (w : World) (hn : n ≤ 1000000) (hown : w.ownsRow 0 45 3 v n xs) (hx1 : ∀ u ∈ xs, u.oneCell' = true) :
    Calls Try.prog 36 #[v] w (ClonePost w 45 3 n xs) := by
  obtain ⟨z, hi, hz1c⟩ := info_block
  obtain ⟨i0, hi0, hz0, hz1, hz2, hz3⟩ := info_parts4 hi
  have hxl := hown.1
  rcases hown.2 with ⟨rfl, rfl⟩ | ⟨g, cap, cur, rfl, _, hg, hnc, hcm, hcs, ht⟩
  · have hx : xs = [] := List.eq_nil_of_length_eq_zero (by simpa using hxl)
    subst hx
    have hfin : ClonePost w 45 3 0 [] (.returned (.slice none 0 0)) w := ⟨_, rfl, World.ownsRow_nil _ _ _ _, Below.refl _ _, fun b hb => by simp [Value.ownBlock] at hb⟩
    have HF := Lib.hid hfin
    clear hown hxl hfin hx1
    have he := @Lib.run_eql_slice_nil Try.prog
    go_enter Try.func36, Try.ntmps36
    go_wp2
    go_ret
    exact HF.out
  · have hr := Reads.of_own hown
    have hfin : ∀ w' v', w'.ownsRow 0 45 3 v' (0 + n) ([] ++ xs) → (w.alloc (.cells #[] 45)).grownBy w' (some w.heap.size) → (v'.ownBlock = some w.heap.size ∨ v'.ownBlock = some (w.heap.size + 1)) → ClonePost w 45 3 n xs (.returned v') w' := fun w' v' h1 h2 h3 =>
      ⟨v', rfl, by simpa using h1, ((Below.refl _ _).alloc (Nat.le_refl _) _).grown h2 (by simp) (fun k hk => by simp at hk; omega), fun b hb => by rcases h3 with h3 | h3 <;> rw [h3] at hb <;> injection hb with hb <;> omega⟩
    have hgl := (Array.getElem?_eq_some_iff.1 hg).1
    have hr1 : Reads (w.alloc (.cells #[] 45)) w.heap.size 3 (some ⟨g, 0, none⟩) n xs := hr.below ((Below.refl _ _).alloc (Nat.le_refl _) _)
    have ho1 : (w.alloc (.cells #[] 45)).ownsRow 0 45 3 (.slice (some ⟨w.heap.size, 0, none⟩) 0 0) 0 [] := World.ownsRow_made w #[] 0 (by omega) (by unfold maxLen; omega) (by simp)
    have HF := Lib.hid hfin; have HR := Lib.hid hr1; have HX := Lib.hid hx1; have HO := Lib.hid ho1
    clear hown hxl hfin hr hx1 ht hcs hg hr1 ho1
    have he := @Lib.run_eql_slice_nil Try.prog
    go_enter Try.func36, Try.ntmps36
    go_wp2_with (at_builtin; refine wpList_append_rd _ rfl (.tmp 5) (.tmp 6) _ rfl 45 i0 z 3 24 Try.underlying60 hi0 hz0 hz1 hz2 hz3 (by omega) (.slice (some ⟨w.heap.size, 0, none⟩) 0 0) 0 [] rfl HO.out w.heap.size (some ⟨g, 0, none⟩) n cap xs rfl HR.out HX.out (by unfold maxLen; omega) (by omega) ?_; intro v' w' h1 h2 h3)
    go_ret
    exact HF.out _ _ h1 h2 (by simpa [Value.ownBlock] using h3)
end Go.Proofs.Ytpjgoiogpgggeaa
