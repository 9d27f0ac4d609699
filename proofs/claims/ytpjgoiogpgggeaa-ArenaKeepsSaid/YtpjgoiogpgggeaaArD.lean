/- The arena's compaction, walked. Conditions: the blocks lie in order, within the cells. -/
import Derived.Deep.RegionHeld3
import Derived.Test.YtpjgoiogpgggeaaArC
namespace Go.Proofs.Ytpjgoiogpgggeaa
open Go.RowKit
def moveC (cs : List Int) (fr f n : Nat) : List Int := cs.take fr ++ (cs.drop f).take n ++ cs.drop (fr + n)
def slide : List Bk → Nat → List Int → List Bk × List Int
  | [], _, cs => ([], cs)
  | b :: r, fr, cs => (⟨b.h, fr, b.w⟩ :: (slide r (fr + b.w) (moveC cs fr b.f b.w)).1, (slide r (fr + b.w) (moveC cs fr b.f b.w)).2)
def Fit : Nat → Nat → List Bk → Prop
  | lo, hi, [] => lo ≤ hi
  | lo, hi, b :: r => lo ≤ b.f ∧ 1 ≤ b.w ∧ Fit (b.f + b.w) hi r
theorem Fit.head {lo hi : Nat} {b : Bk} {r : List Bk} (h : Fit lo hi (b :: r)) : b.f + b.w ≤ hi := by
  obtain ⟨_, _, h⟩ := h
  revert h
  generalize b.f + b.w = k
  induction r generalizing k with
  | nil => exact id
  | cons c r ih => rintro ⟨h1, h2, h3⟩; have := ih _ h3; omega
theorem moveC_length (cs : List Int) (fr f n : Nat) (h1 : fr ≤ f) (h2 : f + n ≤ cs.length) : (moveC cs fr f n).length = cs.length := by
  unfold moveC
  simp only [List.length_append, List.length_take, List.length_drop]
  omega
theorem own_blk1 {w : World} {e : TypeId} {r n cap : Nat} {xs : List Value} (h : w.ownsRow 0 e 1 (.slice (some ⟨r, 0, none⟩) n cap) n xs) :
    ∃ cur : List Value, Blk w r e cur.toArray ∧ cur.length = cap ∧ cur.take n = xs ∧ n ≤ cap ∧ cap ≤ maxLen := by
  rcases h.2 with ⟨h0, _⟩ | ⟨g, cap', cur, hv, _, hg, hn, hc, hs, ht⟩
  · cases h0
  · injection hv with h1 h2 h3
    injection h1 with h1
    injection h1 with h1
    subst h1; subst h3
    exact ⟨cur.toList, hg, by simpa using hs, by simpa using ht, hn, hc⟩
theorem own_splice1 {w w' : World} {e : TypeId} {r n cap : Nat} {xs ys cur : List Value} {o : Nat} (h : w.ownsRow 0 e 1 (.slice (some ⟨r, 0, none⟩) n cap) n xs) (hcur : Blk w r e cur.toArray) (h' : Blk w' r e (splice cur o ys).toArray) (ho : o + ys.length ≤ n) :
    w'.ownsRow 0 e 1 (.slice (some ⟨r, 0, none⟩) n cap) n (splice xs o ys) := by
  obtain ⟨cur', hb, hl, ht, hn, hc⟩ := own_blk1 h
  have he : cur' = cur := by
    unfold Blk at hb hcur
    rw [hb] at hcur
    injection hcur with hcur
    injection hcur with hcur
    exact congrArg Array.toList hcur
  subst he
  have hxl : xs.length = n := by have := h.1; simpa using this
  have hsl : (splice cur' o ys).length = cap := by unfold splice; simp only [List.length_append, List.length_take, List.length_drop]; omega
  refine ⟨?_, .inr ⟨r, cap, _, rfl, Nat.zero_le _, h', hn, hc, ?_, ?_⟩⟩
  · unfold splice; simp only [List.length_append, List.length_take, List.length_drop]; omega
  · simpa using hsl
  · simp only [Nat.mul_one]
    rw [← ht]
    unfold splice
    rw [List.take_append, List.take_append]
    simp only [List.length_append, List.length_take]
    rw [List.take_of_length_le (l := cur'.take o) (by simp; omega), List.take_of_length_le (l := ys) (by omega), List.take_take, List.drop_take]
    congr 2
    · rw [Nat.min_eq_left (by omega)]
    · congr 1; omega
theorem own_some {w : World} {base : Nat} {e : TypeId} {sz n : Nat} {v : Value} {xs : List Value} (h : w.ownsRow base e sz v n xs) (hn : 0 < n) : ∃ r c, v = .slice (some ⟨r, 0, none⟩) n c := by
  rcases h.2 with ⟨_, h0⟩ | ⟨r, cap, _, hv, _⟩
  · omega
  · exact ⟨r, cap, hv⟩
theorem ivals_one (l : List Int) : ∀ u ∈ ivals l, u.oneCell' = true := by
  intro u hu
  simp only [ivals, List.mem_map] at hu
  obtain ⟨x, _, rfl⟩ := hu
  rfl
theorem ivals_splice (cs : List Int) (fr f n : Nat) (h1 : fr ≤ f) (h2 : f + n ≤ cs.length) : splice (ivals cs) fr (((ivals cs).drop f).take n) = ivals (moveC cs fr f n) := by
  unfold splice moveC ivals
  simp only [List.map_append, List.map_take, List.map_drop, List.length_take, List.length_drop, List.length_map]
  rw [Nat.min_eq_left (by omega), List.append_assoc]
def compactA (a : Ar) : Ar := { a with l := (slide a.l 0 a.cells).1, cells := (slide a.l 0 a.cells).2, moves := a.moves + 1 }
structure CpI (w : World) (g : Nat) (vc vl : Value) (a : Ar) (k f : Nat) (pre : List Bk) (cs : List Int) (W : World) : Prop where
  ar : Ara W g vc vl { a with l := pre ++ a.l.drop k, cells := cs }
  fr : Frm [some g, vc.ownBlock, vl.ownBlock] w W
  pl : pre.length = k
  cl : cs.length = a.cells.length
  fit : Fit f a.cells.length (a.l.drop k)
  eq : slide a.l 0 a.cells = (pre ++ (slide (a.l.drop k) f cs).1, (slide (a.l.drop k) f cs).2)
theorem Fit.lo {lo lo' hi : Nat} {l : List Bk} (h : Fit lo hi l) (hl : lo' ≤ lo) : Fit lo' hi l := by
  cases l with
  | nil => exact Nat.le_trans hl h
  | cons b r => exact ⟨Nat.le_trans hl h.1, h.2⟩
theorem CpI.step {w wr w1 w3 : World} {g k f : Nat} {a : Ar} {pre : List Bk} {cs : List Int} {rc cc rl c : Nat} {cur : List Value}
    (h : CpI w g (.slice (some ⟨rc, 0, none⟩) cs.length cc) (.slice (some ⟨rl, 0, none⟩) a.l.length c) a k f pre cs wr) (hk : k < a.l.length) (hb : Below wr.heap.size wr w1) (hcur : Blk w1 rc 59 cur.toArray) (hct : cur.take cs.length = ivals cs)
    (hb3 : Blk w3 rc 59 (splice cur f ((cur.drop a.l[k].f).take a.l[k].w)).toArray) (hg3 : w1.grownBy w3 (some rc)) (hfq : f ≤ a.l[k].f) (hq : a.l[k].f + a.l[k].w ≤ cs.length) :
    CpI w g (.slice (some ⟨rc, 0, none⟩) cs.length cc) (.slice (some ⟨rl, 0, none⟩) a.l.length c) a (k + 1) (f + a.l[k].w) (pre ++ [⟨a.l[k].h, f, a.l[k].w⟩]) (moveC cs f a.l[k].f a.l[k].w) (w3.setCell ⟨rl, k * 3 + 1, none⟩ (.int .i64 f)) := by
  have h1 := h.ar.below hb
  have hdr : a.l.drop k = a.l[k] :: a.l.drop (k + 1) := List.drop_eq_getElem_cons hk
  have hgc : g ≠ rc := fun e => own_blk_ne h1.c h1.blk (by decide) (by rw [e]; rfl)
  have hgl : g ≠ rl := fun e => own_blk_ne h1.l h1.blk (by decide) (by rw [e]; rfl)
  have hcl : rc ≠ rl := fun e => own_own_ne h1.c h1.l (by decide) rc rfl (by rw [e]; rfl)
  have hml := moveC_length cs f a.l[k].f a.l[k].w hfq hq
  have hXE : (cur.drop a.l[k].f).take a.l[k].w = ((ivals cs).drop a.l[k].f).take a.l[k].w := by
    rw [← hct, List.drop_take, List.take_take, Nat.min_eq_left (by omega)]
  have hcl3 : ((cur.drop a.l[k].f).take a.l[k].w).length = a.l[k].w := by rw [hXE, List.length_take, List.length_drop, ivals_length]; omega
  have hc3 := own_splice1 h1.c hcur hb3 (by rw [hcl3]; omega)
  rw [hXE] at hc3
  have hLl : (pre ++ a.l.drop k).length = a.l.length := by rw [List.length_append, h.pl, List.length_drop]; omega
  have hLk : (pre ++ a.l.drop k)[k]'(by omega) = a.l[k] := by rw [List.getElem_append_right (by rw [h.pl]; omega)]; simp [h.pl]
  have hl3 := ((Frm.refl [some rc] w1).grown hg3 (fun k hk => .inl (by rw [← hk]; simp))).own h1.l (fun b hb => by
    simp only [List.mem_singleton]
    intro he
    injection he with he
    subst he
    exact own_own_ne h1.c h1.l (by decide) b rfl hb)
  simp only [hLl] at hl3
  have hst := World.ownsRow.stored hl3 (k * 3 + 1) (.int .i64 f)
  have hset := bents_setf (pre ++ a.l.drop k) k (by omega) f
  have hnew : (pre ++ a.l.drop k).set k ⟨a.l[k].h, f, a.l[k].w⟩ = (pre ++ [⟨a.l[k].h, f, a.l[k].w⟩]) ++ a.l.drop (k + 1) := by
    rw [hdr, List.set_append_right _ _ (by rw [h.pl]; omega), h.pl, Nat.sub_self, List.set_cons_zero, List.append_assoc, List.singleton_append]
  rw [hLk] at hset
  rw [hset, hnew] at hst
  have hfit := h.fit
  rw [hdr] at hfit
  refine CpI.mk ⟨?_, ?_, ?_⟩ ?_ (by rw [List.length_append, h.pl]; rfl) (by rw [hml]; exact h.cl) (hfit.2.2.lo (by omega)) ?_
  · exact ((h1.blk.grown hg3 (by simpa using hgc)).far (p := ⟨rl, _, none⟩) (by simpa using hgl) _)
  · show World.ownsRow _ 0 59 1 _ (moveC cs f a.l[k].f a.l[k].w).length (ivals (moveC cs f a.l[k].f a.l[k].w))
    rw [hml, ← ivals_splice cs f a.l[k].f a.l[k].w hfq hq]
    exact ownsRow_setCell_other hc3 (a := ⟨rl, k * 3 + 1, none⟩) (by simp only [Value.ownBlock]; intro he; injection he with he; exact hcl he) _
  · show World.ownsRow _ 0 45 3 _ ((pre ++ [(⟨a.l[k].h, f, a.l[k].w⟩ : Bk)]) ++ a.l.drop (k + 1)).length (bents ((pre ++ [(⟨a.l[k].h, f, a.l[k].w⟩ : Bk)]) ++ a.l.drop (k + 1)))
    have : ((pre ++ [(⟨a.l[k].h, f, a.l[k].w⟩ : Bk)]) ++ a.l.drop (k + 1)).length = a.l.length := by simp only [List.length_append, h.pl, List.length_drop, List.length_cons, List.length_nil]; omega
    rw [this]
    exact hst.1
  · exact ((h.fr.thenBelow hb).grown hg3 (fun b hb => .inl (by injection hb with hb; subst hb; simp [Value.ownBlock]))).setCell (.inl (by simp [Value.ownBlock])) _
  · rw [h.eq, hdr, slide]
    simp [List.append_assoc]
set_option maxRecDepth 100000 in
set_option maxHeartbeats 1000000 in
theorem compact_any (g : Nat) (vc vl : Value) (a : Ar) (w : World) (hA : Ara w g vc vl a) (hl : a.l.length ≤ 16777216) (hF : Fit 0 a.cells.length a.l) (hcm : a.cells.length ≤ 16777216) (hmv : a.moves ≤ 16777216) :
    Calls Try.prog 27 #[.pointer (some ⟨g, 0, none⟩)] w (AraPost w g vc vl (.tuple #[]) (compactA a)) := by
  obtain ⟨i0, hi0, hz0, hz1, hz2, hz3⟩ := info_parts4 info_F
  obtain ⟨A, c, hvl⟩ := own_slice hA.l
  obtain ⟨⟨h0, h1, h2, h3⟩, h4, h5, h6, h7⟩ := hA.cells
  have HI0 : Hid (CpI w g vc vl a 0 0 [] a.cells w) := ⟨by simpa using hA, Frm.refl _ _, rfl, rfl, by simpa using hF, by simp⟩
  subst hvl
  clear hA h0 h1 h3 h4 h5 h6 h7
  go_enter Try.func27, Try.ntmps27
  go_wp2_with fail
  go_loopw [2, 10] (fun fr i wr => ∃ (k f : Nat) (pre : List Bk) (cs : List Int), k ≤ a.l.length ∧ i = .int .i64 k ∧ fr = .int .i64 f ∧ CpI w g vc (.slice A a.l.length c) a k f pre cs wr) (fun _ i _ => a.l.length - (intOf i).toNat)
  case atStart => exact ⟨0, 0, [], a.cells, by omega, rfl, rfl, HI0.out⟩
  case round =>
    obtain ⟨k, f, pre, cs, hk, rfl, rfl, hI⟩ := hrel
    by_cases hlt : k < a.l.length
    · have hdr : a.l.drop k = a.l[k] :: a.l.drop (k + 1) := List.drop_eq_getElem_cons hlt
      have hfit := hI.fit
      rw [hdr] at hfit
      have hhd := hfit.head
      obtain ⟨hf1, hf2, hf3⟩ := hfit
      have hcl := hI.cl
      obtain ⟨rc, cc, hvc⟩ : ∃ r c, vc = .slice (some ⟨r, 0, none⟩) cs.length c := own_some hI.ar.c (by show 0 < cs.length; omega)
      subst hvc
      obtain ⟨cur, hbc, hcc, hct, hcn, hcx⟩ := own_blk1 hI.ar.c
      have hLl : (pre ++ a.l.drop k).length = a.l.length := by rw [List.length_append, hI.pl, List.length_drop]; omega
      have hLk : (pre ++ a.l.drop k)[k]'(by omega) = a.l[k] := by rw [List.getElem_append_right (by rw [hI.pl]; omega)]; simp [hI.pl]
      have hol := hI.ar.l
      simp only [hLl] at hol
      obtain ⟨rl, hAl, hrl, g0, g1, g2⟩ := own_cells3 (l := pre ++ a.l.drop k) (by rw [hLl]; exact hol) k (by omega)
      subst hAl
      simp only [hLk] at g0 g1 g2
      have hcc1 : cs.length ≤ cc := hcn
      obtain ⟨WB, hWB⟩ : ∃ WB, WB = wr.alloc (.cells #[.int .i64 a.l[k].h, .int .i64 a.l[k].f, .int .i64 a.l[k].w] 45) := ⟨_, rfl⟩
      have hbB : Below wr.heap.size wr WB := by rw [hWB]; exact (Below.refl _ _).alloc (Nat.le_refl _) _
      have hBX : Blk WB wr.heap.size 45 #[.int .i64 a.l[k].h, .int .i64 a.l[k].f, .int .i64 a.l[k].w] := by rw [hWB]; exact Blk.new _ _ _
      have hArB := hI.ar.below hbB
      have hbcB := hbc.below hbB hbc.lt
      have hS : ∀ w1, Below WB.heap.size WB w1 → (w1.cell? ⟨g, 1, none⟩ = some (.slice (some ⟨rc, 0, none⟩) cs.length cc) ∧ w1.cell? ⟨wr.heap.size, 0, none⟩ = some (.int .i64 a.l[k].h) ∧ w1.cell? ⟨wr.heap.size, 1, none⟩ = some (.int .i64 a.l[k].f) ∧ w1.cell? ⟨wr.heap.size, 2, none⟩ = some (.int .i64 a.l[k].w)) ∧ Blk w1 rc 59 cur.toArray := fun w1 hb => by
        have h1 := hArB.below hb
        have h2 := hBX.below hb hBX.lt
        exact ⟨⟨h1.blk.cell 1, h2.cell 0, h2.cell 1, h2.cell 2⟩, hbcB.below hb hbcB.lt⟩
      have HS := Lib.hid hS
      obtain ⟨⟨e1, e2, e3, e4⟩, e5⟩ := hS WB (Below.refl _ _)
      have hstep : ∀ w1 w3, Below wr.heap.size wr w1 → Blk w1 rc 59 cur.toArray → Blk w3 rc 59 (splice cur f ((cur.drop a.l[k].f).take a.l[k].w)).toArray → w1.grownBy w3 (some rc) →
          CpI w g (.slice (some ⟨rc, 0, none⟩) cs.length cc) (.slice (some ⟨rl, 0, none⟩) a.l.length c) a (k + 1) (f + a.l[k].w) (pre ++ [⟨a.l[k].h, f, a.l[k].w⟩]) (moveC cs f a.l[k].f a.l[k].w) (w3.setCell ⟨rl, k * 3 + 1, none⟩ (.int .i64 f)) :=
        fun w1 w3 hb hc hb3 hg3 => hI.step hlt hb hc hct hb3 hg3 hf1 (by omega)
      have HST := Lib.hid hstep
      clear hstep
      have hrow : ∀ w1 w3, Below wr.heap.size wr w1 → w1.grownBy w3 (some rc) → w3.cell? ⟨rl, k * 3 + 1, none⟩ = some (.int .i64 a.l[k].f) ∧ w3.frozen? ⟨rl, k * 3 + 1, none⟩ = false := fun w1 w3 hb hg3 => by
        have h1 := hI.ar.below hb
        have hl3 := ((Frm.refl [some rc] w1).grown hg3 (fun k hk => .inl (by rw [← hk]; simp))).own h1.l (fun b hb => by
          simp only [List.mem_singleton]
          intro he
          injection he with he
          subst he
          exact own_own_ne h1.c h1.l (by decide) b rfl hb)
        simp only [hLl] at hl3
        have hl4 : OwnB w3 (.slice (some ⟨rl, 0, none⟩) (pre ++ a.l.drop k).length c) (pre ++ a.l.drop k) := by unfold OwnB; rw [hLl]; exact hl3
        obtain ⟨r', hr', _, _, y1, _⟩ := own_cells3 hl4 k (by omega)
        injection hr' with hr'
        injection hr' with hr'
        subst hr'
        rw [hLk] at y1
        exact ⟨y1, hl3.frozenAt _⟩
      have HRW := Lib.hid hrow
      clear hrow
      have hbx : wr.heap.size ≠ rl := by omega
      have hgl : g ≠ rl := fun e => own_blk_ne hI.ar.l hI.ar.blk (by decide) (by rw [e]; rfl)
      have HI := Lib.hid hI
      have HB := Lib.hid hbB
      have HBX := Lib.hid hBX
      clear hS hI hbB hBX hArB hbc hbcB hol hLk hLl hdr hf3 HI0 h2
      have hlc : ((cur.drop a.l[k].f).take a.l[k].w).length = a.l[k].w := by rw [List.length_take, List.length_drop]; omega
      generalize a.l[k] = q at *
      obtain ⟨qh, qf, qw⟩ := q
      simp only at *
      have b1 : (f : Int) ≤ (cs.length : Int) := by omega
      have b2 : ((qf + qw : Nat) : Int) ≤ (cs.length : Int) := by omega
      have b3 : ((qf + qw : Nat) : Int) ≤ (cc : Int) := by omega
      have b4 : (qf : Int) ≤ ((qf + qw : Nat) : Int) := by omega
      have n1 : f ≤ cs.length := by omega
      have n5 : ¬ cc = qf := by omega
      have n6 : ¬ cc = f := by omega
      have n2 : qf + qw ≤ cc := by omega
      have n3 : f ≤ cc := by omega
      have n4 : qf ≤ cc := by omega
      have b5 : (qf : Int) + (qw : Int) ≤ (cc : Int) := by omega
      have b6 : (cs.length : Int) ≤ (cc : Int) := by omega
      have b7 : (0 : Int) ≤ (f : Int) := by omega
      have b8 : (0 : Int) ≤ (qf : Int) := by omega
      have b9 : ((qf : Int) + (qw : Int)).toNat = qf + qw := by omega
      have b10 : (0 : Int) ≤ (qf : Int) + (qw : Int) := by omega
      have b11 : (qf : Int) ≤ (qf : Int) + (qw : Int) := by omega
      have hXE : (cur.drop qf).take qw = ((ivals cs).drop qf).take qw := by
        rw [← hct, List.drop_take, List.take_take, Nat.min_eq_left (by omega)]
      have HSR : Hid (∀ w1, Blk w1 rc 59 cur.toArray → ∀ j u, ((cur.drop qf).take qw)[j]? = some u → w1.cell? ⟨rc, qf + j, none⟩ = some u) := fun w1 hb j u hu => by
        rw [hb.cell]
        rw [List.getElem?_take] at hu
        split at hu
        · rw [List.getElem?_drop] at hu
          simpa using hu
        · cases hu
      have HON : Hid (∀ u ∈ (cur.drop qf).take qw, u.oneCell' = true) := fun u hu => by
        rw [hXE] at hu
        exact ivals_one cs u (List.mem_of_mem_drop (List.mem_of_mem_take hu))
      have HXE := Lib.hid hXE
      have HKP : Hid (∀ w1 w3, Below WB.heap.size WB w1 → w1.grownBy w3 (some rc) → (w3.cell? ⟨g, 1, none⟩ = some (.slice (some ⟨rc, 0, none⟩) cs.length cc) ∧ w3.cell? ⟨wr.heap.size, 0, none⟩ = some (.int .i64 qh) ∧ w3.cell? ⟨wr.heap.size, 1, none⟩ = some (.int .i64 qf) ∧ w3.cell? ⟨wr.heap.size, 2, none⟩ = some (.int .i64 qw)) ∧ w3.cell? ⟨g, 2, none⟩ = some (.slice (some ⟨rl, 0, none⟩) a.l.length c)) := fun w1 w3 hb hg => by
        have h1 := (HI.out.ar.below HB.out).below hb
        have h2 := HBX.out.below hb HBX.out.lt
        have n1 : g ≠ rc := fun e => own_blk_ne h1.c h1.blk (by decide) (by rw [e]; rfl)
        have n2 : wr.heap.size ≠ rc := fun e => own_blk_ne h1.c h2 (by decide) (by rw [e]; rfl)
        have h3 := h1.blk.grown hg (by simpa using n1)
        have h4 := h2.grown hg (by simpa using n2)
        exact ⟨⟨h3.cell 1, h4.cell 0, h4.cell 1, h4.cell 2⟩, h3.cell 2⟩
      have HLC := Lib.hid hlc
      have HCC := Lib.hid hcc
      have HCL := Lib.hid hcl
      clear hcl hXE hlc hcc
      go_wp2_with fail
      rw [← hWB]
      clear hWB
      go_region_held3 (fun w' => w'.cell? ⟨g, 1, none⟩ = some (.slice (some ⟨rc, 0, none⟩) cs.length cc) ∧ w'.cell? ⟨wr.heap.size, 0, none⟩ = some (.int .i64 qh) ∧ w'.cell? ⟨wr.heap.size, 1, none⟩ = some (.int .i64 qf) ∧ w'.cell? ⟨wr.heap.size, 2, none⟩ = some (.int .i64 qw)) (go_keep)
        (first | (go_at_call 30; refine (to_any qh qf qw _ (by omega)).mono ?_; rintro e w1 ⟨rfl, hb1'⟩; have hb1 : Below WB.heap.size WB w1 := ⟨hb1'.os, hb1'.tape, hb1'.output, hb1'.size, hb1'.block⟩; obtain ⟨⟨d0, d1, d2, d3⟩, d4⟩ := HS.out w1 hb1; have HD4 := Lib.hid d4; have HB1 := Lib.hid hb1; clear hb1 hb1' d4) | (refine step_copy_blk _ rfl (.tmp 20) (.tmp 29) _ rfl 59 i0 1 Try.underlying23 hi0 hz1 rc f (cs.length - f) (cc - f) rc qf qw (cc - qf) (by simp [Act.eval, Act.put, n6]) (by simp [Act.eval, Act.put, n5]) cur 59 ((cur.drop qf).take qw) qw HD4.out (by omega) (by rw [HLC.out]; simp) (HSR.out _ HD4.out) (by rw [HLC.out, HCC.out]; omega) HON.out ?_; intro w3 hb3 hg3; obtain ⟨m1, m2⟩ := HKP.out _ _ HB1.out hg3; obtain ⟨m3, m4⟩ := HRW.out _ _ (HB.out.trans (HB1.out.mono HB.out.size)) hg3; have HFN := Lib.hid (HST.out _ _ (HB.out.trans (HB1.out.mono HB.out.size)) HD4.out hb3 hg3); have HB3 := Lib.hid hb3; have HG3 := Lib.hid hg3; clear hb3 hg3))
      obtain ⟨m5, m6, m7, m8⟩ := m1
      go_wp2_with fail
      go_roundw
      case rel => exact ⟨k + 1, f + qw, _, _, by omega, by go_num, by go_num, HFN.out⟩
      case measure => simp [intOf]; omega
    · have hkl : a.l.drop k = [] := List.drop_eq_nil_of_le (by omega)
      have heq := hI.eq
      rw [hkl] at heq
      simp only [slide, List.append_nil] at heq
      have har := hI.ar
      rw [hkl, List.append_nil] at har
      have hne1 : vc.ownBlock ≠ some g := own_blk_ne har.c har.blk (by decide)
      have hne2 : (Value.slice A a.l.length c).ownBlock ≠ some g := own_blk_ne har.l har.blk (by decide)
      have c7 : wr.cell? ⟨g, 7, none⟩ = some (.int .i64 a.moves) := har.blk.cell 7
      have f7 := har.blk.frozen 7
      have hfin : AraPost w g vc (.slice A a.l.length c) (.tuple #[]) (compactA a) (.returned (.tuple #[])) (wr.setCell ⟨g, 7, none⟩ (.int .i64 ((a.moves : Int) + 1))) := by
        refine ⟨vc, _, rfl, ⟨?_, ?_, ?_⟩, hI.fr.setCell (.inl (by simp)) _, .inl rfl, .inl rfl⟩
        · have := har.blk.set_ 7 (.int .i64 ((a.moves : Int) + 1))
          simpa [compactA, heq] using this
        · have := ownsRow_setCell_other har.c (a := ⟨g, 7, none⟩) hne1 (.int .i64 ((a.moves : Int) + 1))
          simpa [compactA, heq, OwnF] using this
        · have := ownsRow_setCell_other har.l (a := ⟨g, 7, none⟩) hne2 (.int .i64 ((a.moves : Int) + 1))
          simpa [compactA, heq, OwnB] using this
      have HFN := Lib.hid hfin
      clear hI har hfin heq hkl hne1 hne2 HI0
      go_wp2_with fail
      exact bodyPost_ret (v := .tuple #[]) (by simp [results, Try.f27, go_sem]) rfl HFN.out
end Go.Proofs.Ytpjgoiogpgggeaa
