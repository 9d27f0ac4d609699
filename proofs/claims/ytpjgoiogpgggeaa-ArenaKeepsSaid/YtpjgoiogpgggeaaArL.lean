/- The arena's methods, each by one contract under the arena's invariant. Conditions: the capacity is at most 2^24, and the arena was given and compacted less than a million times. -/
import Derived.Test.YtpjgoiogpgggeaaArP
namespace Go.Proofs.Ytpjgoiogpgggeaa
open Go.RowKit
structure Sml (a : Ar) : Prop where
  cap : a.cap ≤ 16777216
  last : a.last ≤ 1000000
  moves : a.moves ≤ 1000000
theorem Inv.bnd {a : Ar} (h : Inv a) (hs : Sml a) : (∀ b ∈ a.l, b.f + b.w ≤ 16777216) ∧ a.cells.length ≤ 16777216 ∧ a.live ≤ a.cap ∧ a.l.length ≤ 1000000 := by
  have h1 := h.live; have h2 := h.hc; have h3 := hs.cap
  refine ⟨fun b hb => by have := h.fit.mem hb; omega, by rw [h.cl]; omega, by omega, ?_⟩
  have hle : (a.l.map Bk.h).length ≤ a.last := by
    have hsub : ∀ x ∈ a.l.map Bk.h, x ∈ (List.range a.last).map (· + 1) := fun x hx => by
      obtain ⟨b, hb, rfl⟩ := List.mem_map.1 hx
      have := h.hl b hb
      exact List.mem_map.2 ⟨b.h - 1, List.mem_range.2 (by omega), by omega⟩
    have := nodup_sub h.nd hsub
    simpa using this
  have := hs.last
  rw [List.length_map] at hle; omega
def giveF (a : Ar) (n : Int) : Ar × Int × Int :=
  if n < 1 ∨ 65536 < n then (a, 0, 11) else if (a.cap : Int) < (a.live : Int) + n then (a, 0, 15) else (giveOk a n.toNat, (a.last : Int) + 1, 0)
def freeF (a : Ar) (N : Int) : Ar × Int := match hix N a.l 0 with | none => (a, 14) | some i => (freeAt a i, 0)
def putF (a : Ar) (N : Int) (ys : List Int) : Ar × Int := match hix N a.l 0 with | none => (a, 14) | some i => if ys.length = (a.l.getD i ⟨0, 0, 0⟩).w then (putAt a i ys, 0) else (a, 20)
theorem araPost_below {w w' : World} {g : Nat} {vc vl : Value} {a : Ar} {r : Value} {e : Ending} (hA : Ara w g vc vl a) (he : e = .returned r) (hb : Below w.heap.size w w') : AraPost w g vc vl r a e w' :=
  ⟨vc, vl, he, hA.below hb, Frm.of_below hb, .inl rfl, .inl rfl⟩
theorem give_c (g : Nat) (vc vl : Value) (a : Ar) (n : Int) (w : World) (hA : Ara w g vc vl a) (hI : Inv a) (hs : Sml a) :
    Calls Try.prog 11 #[.pointer (some ⟨g, 0, none⟩), .int .i64 n] w (AraPost w g vc vl (.tuple #[.int .i64 (giveF a n).2.1, .int .i64 (giveF a n).2.2]) (giveF a n).1) := by
  obtain ⟨b1, b2, b3, b4⟩ := hI.bnd hs
  unfold giveF
  split
  · rename_i h
    exact (give_range g n w h).mono fun e w' ⟨he, hw⟩ => by subst hw; exact araPost_below hA he (Below.refl _ _)
  · rename_i h
    obtain ⟨m, rfl⟩ : ∃ m : Nat, n = m := ⟨n.toNat, by omega⟩
    split
    · exact (give_full g vc vl a m w hA ⟨by omega, by omega⟩ hs.cap b3 (by omega)).mono fun e w' ⟨he, hw⟩ => araPost_below hA he hw
    · have hn : 1 ≤ m := by omega
      have hf : a.live + m ≤ a.cap := by omega
      have hlast := hs.last
      have hcap := hs.cap
      simp only [Int.toNat_natCast]
      unfold giveOk
      cases hg : gapOf a.cap m a.l 0 0 with
      | some p =>
        obtain ⟨q1, q2, q3, q4, q5, q6, q7⟩ := gap_spec hI.fit hI.hc hn hg
        exact give_there g vc vl a a m p.1 p.2 w hA ⟨hn, by omega⟩ hs.cap hf b4 b1 hg rfl b4 (by omega) (by omega) (by omega) (by omega)
      | none =>
        have hI1 := inv_compact hI
        have hg1 := gap_compact hI hn hf
        have hlv1 : (compactA a).live = a.live := rfl
        obtain ⟨q1, q2, q3, q4, q5, q6, q7⟩ := gap_spec hI1.fit hI1.hc hn hg1
        have hm := hs.moves
        have hl1 : (compactA a).l.length = a.l.length := (slide_spec (fr := 0) (cs := a.cells) hI.fit (Nat.le_refl _) hI.cl).2.2.2.1
        have hcl := hI.cl
        exact give_pack g vc vl a (compactA a) m (compactA a).live (compactA a).l.length w hA ⟨hn, by omega⟩ hs.cap hf b4 b1 hg (by rw [hI.cl]; exact hI.fit) b2 (by omega) rfl
          (fun b hb => by have h1 := hI1.fit.mem hb; have h2 := hI1.hc; have : (compactA a).cap = a.cap := rfl; omega) hg1 (by omega) (show a.last ≤ _ by omega) (by omega) (Nat.le_refl _) (by omega)
theorem free_c (g : Nat) (vc vl : Value) (a : Ar) (N : Int) (w : World) (hA : Ara w g vc vl a) (hI : Inv a) (hs : Sml a) :
    Calls Try.prog 12 #[.pointer (some ⟨g, 0, none⟩), .int .i64 N] w (AraPost w g vc vl (.int .i64 (freeF a N).2) (freeF a N).1) := by
  obtain ⟨b1, b2, b3, b4⟩ := hI.bnd hs
  have hcap := hs.cap
  unfold freeF
  cases hq : hix N a.l 0 with
  | none => exact (free_none g vc vl a N w hA (by omega) hq).mono fun e w' ⟨he, hw⟩ => araPost_below hA he hw
  | some i =>
    obtain ⟨hi, he⟩ := hix_at hq
    have hgd : a.l.getD i ⟨0, 0, 0⟩ = a.l[i] := by simp [hi]
    have hw : a.l[i].w ≤ Wds a.l := by
      have : a.l = a.l.take i ++ a.l[i] :: a.l.drop (i + 1) := by rw [← List.drop_eq_getElem_cons hi, List.take_append_drop]
      have := congrArg Wds this
      rw [wds_append] at this; simp only [Wds] at this; omega
    have := free_some g vc vl a N i w hA b4 hq hi (by rw [hI.lv]; exact hw) (by omega)
    simp only [freeAt, hgd]
    exact this
/-- A slice of cells that reads as ys. -/
def RdF (w : World) (A : Option Addr) (ys : List Int) : Prop := ys.length ≤ 16777216 ∧ (0 < ys.length → ∃ b o, A = some ⟨b, o, none⟩ ∧ b < w.heap.size ∧ ∀ j u, (ivals ys)[j]? = some u → w.cell? ⟨b, o + j, none⟩ = some u)
theorem put_c (g : Nat) (vc vl : Value) (a : Ar) (N : Int) (A : Option Addr) (c : Nat) (ys : List Int) (w : World) (hA : Ara w g vc vl a) (hI : Inv a) (hs : Sml a) (hy : RdF w A ys) :
    Calls Try.prog 14 #[.pointer (some ⟨g, 0, none⟩), .int .i64 N, .slice A ys.length c] w (AraPost w g vc vl (.int .i64 (putF a N ys).2) (putF a N ys).1) := by
  obtain ⟨b1, b2, b3, b4⟩ := hI.bnd hs
  have hcap := hs.cap
  unfold putF
  cases hq : hix N a.l 0 with
  | none => exact (put_none g vc vl a N A ys.length c w hA (by omega) hq).mono fun e w' ⟨he, hw⟩ => araPost_below hA he hw
  | some i =>
    obtain ⟨hi, he⟩ := hix_at hq
    have hgd : a.l.getD i ⟨0, 0, 0⟩ = a.l[i] := by simp [hi]
    have hm := hI.fit.mem (List.getElem_mem hi)
    simp only [hgd]
    by_cases hl : ys.length = a.l[i].w
    · rw [if_pos hl]
      obtain ⟨b, o, rfl, hb, hc⟩ := hy.2 (by omega)
      have := put_some g vc vl a N i b o ys.length c ys w hA (by omega) hq hi hl (by rw [hI.cl]; omega) (by omega) b2 rfl hb hc
      simp only [putAt, hgd]
      exact this
    · rw [if_neg hl]
      exact (put_shape g vc vl a N i A ys.length c w hA (by omega) hq hi hl).mono fun e w' ⟨he, hw⟩ => araPost_below hA he hw
/-- What Get leaves: nothing new but the copy. -/
structure GetPost (w : World) (xs : List Int) (er : Int) (e : Ending) (w' : World) : Prop where
  ex : ∃ v', e = .returned (.tuple #[v', .int .i64 er]) ∧ OwnF w' v' xs ∧ Below w.heap.size w w' ∧ ∀ b, v'.ownBlock = some b → w.heap.size ≤ b
theorem get_has (g : Nat) (vc vl : Value) (a : Ar) (h : Nat) (xs : List Int) (w : World) (hA : Ara w g vc vl a) (hI : Inv a) (hs : Sml a) (hh : Has a h xs) :
    Calls Try.prog 15 #[.pointer (some ⟨g, 0, none⟩), .int .i64 h] w (GetPost w xs 0) := by
  obtain ⟨b1, b2, b3, b4⟩ := hI.bnd hs
  obtain ⟨i, hi, hq, he, hc⟩ := has_hix hI hh
  have hm := hI.fit.mem (List.getElem_mem hi)
  have := get_some g vc vl a h i w hA (by omega) hq hi (by rw [hI.cl]; omega) (by omega) b2
  rw [hc.get (by rw [hI.cl]; omega)] at this
  exact this.mono fun e w' h => ⟨h⟩
theorem get_not (g : Nat) (vc vl : Value) (a : Ar) (N : Int) (w : World) (hA : Ara w g vc vl a) (hI : Inv a) (hs : Sml a) (hq : hix N a.l 0 = none) :
    Calls Try.prog 15 #[.pointer (some ⟨g, 0, none⟩), .int .i64 N] w (GetPost w [] 14) := by
  obtain ⟨b1, b2, b3, b4⟩ := hI.bnd hs
  exact (get_none g vc vl a N w hA (by omega) hq).mono fun e w' ⟨he, hw⟩ => ⟨_, he, World.ownsRow_nil _ _ _ _, hw, fun b hb => by simp [Value.ownBlock] at hb⟩
theorem find_c (g : Nat) (vc vl : Value) (a : Ar) (N : Int) (w : World) (hA : Ara w g vc vl a) (hI : Inv a) (hs : Sml a) :
    Calls Try.prog 18 #[.pointer (some ⟨g, 0, none⟩), .int .i64 N] w fun e w' => e = .returned (.tuple (fiVals a.l (hix N a.l 0))) ∧ Below w.heap.size w w' :=
  find_any g vc vl a N w hA (by have := (hI.bnd hs).2.2.2; omega)
theorem inv_giveF {a : Ar} (n : Int) (h : Inv a) : Inv (giveF a n).1 := by
  unfold giveF
  split
  · exact h
  · split
    · exact h
    · exact inv_giveOk h (by omega) (by omega)
theorem inv_freeF {a : Ar} (N : Int) (h : Inv a) : Inv (freeF a N).1 := by
  unfold freeF
  cases hq : hix N a.l 0 with
  | none => exact h
  | some i => exact inv_freeAt h (hix_at hq).1
theorem inv_putF {a : Ar} (N : Int) (ys : List Int) (h : Inv a) : Inv (putF a N ys).1 := by
  unfold putF
  cases hq : hix N a.l 0 with
  | none => exact h
  | some i =>
    obtain ⟨hi, he⟩ := hix_at hq
    simp only [show a.l.getD i ⟨0, 0, 0⟩ = a.l[i] from by simp [hi]]
    split
    · rename_i hl
      exact inv_putAt h hi hl
    · exact h
/-- The arena's numbers, bounded by the calls made. -/
structure Cnt (a : Ar) (cap k : Nat) : Prop where
  cap : a.cap = cap
  last : a.last ≤ k
  moves : a.moves ≤ k
theorem Cnt.sml {a : Ar} {cap k : Nat} (h : Cnt a cap k) (hc : cap ≤ 16777216) (hk : k ≤ 1000000) : Sml a := ⟨by rw [h.cap]; exact hc, by have := h.last; omega, by have := h.moves; omega⟩
theorem Cnt.mono {a : Ar} {cap k k' : Nat} (h : Cnt a cap k) (hk : k ≤ k') : Cnt a cap k' := ⟨h.cap, by have := h.last; omega, by have := h.moves; omega⟩
theorem cnt_giveF {a : Ar} {cap k : Nat} (n : Int) (h : Cnt a cap k) : Cnt (giveF a n).1 cap (k + 1) := by
  unfold giveF
  split
  · exact h.mono (by omega)
  · split
    · exact h.mono (by omega)
    · obtain ⟨q1, q2, q3, q4, q5, q6⟩ := giveOk_flds a n.toNat
      have := h.last; have := h.moves
      exact ⟨q1.trans h.cap, by show (giveOk a n.toNat).last ≤ _; omega, by show (giveOk a n.toNat).moves ≤ _; omega⟩
theorem cnt_freeF {a : Ar} {cap k : Nat} (N : Int) (h : Cnt a cap k) : Cnt (freeF a N).1 cap k := by
  unfold freeF
  cases hq : hix N a.l 0 with
  | none => exact h
  | some i => exact ⟨h.cap, h.last, h.moves⟩
theorem cnt_putF {a : Ar} {cap k : Nat} (N : Int) (ys : List Int) (h : Cnt a cap k) : Cnt (putF a N ys).1 cap k := by
  unfold putF
  cases hq : hix N a.l 0 with
  | none => exact h
  | some i => simp only; split <;> exact ⟨h.cap, h.last, h.moves⟩
theorem has_giveF {a : Ar} {h : Nat} {xs : List Int} (n : Int) (hI : Inv a) (hh : Has a h xs) : Has (giveF a n).1 h xs := by
  unfold giveF
  split
  · exact hh
  · split
    · exact hh
    · exact has_giveOk hI (by omega) (by omega) hh
theorem has_freeF {a : Ar} {h : Nat} {xs : List Int} (N : Int) (hN : N ≠ h) (hh : Has a h xs) : Has (freeF a N).1 h xs := by
  unfold freeF
  cases hq : hix N a.l 0 with
  | none => exact hh
  | some i =>
    obtain ⟨hi, he⟩ := hix_at hq
    exact has_freeAt hi (by omega) hh
theorem has_putF {a : Ar} {h : Nat} {xs : List Int} (N : Int) (ys : List Int) (hI : Inv a) (hN : N ≠ h) (hh : Has a h xs) : Has (putF a N ys).1 h xs := by
  unfold putF
  cases hq : hix N a.l 0 with
  | none => exact hh
  | some i =>
    obtain ⟨hi, he⟩ := hix_at hq
    simp only [show a.l.getD i ⟨0, 0, 0⟩ = a.l[i] from by simp [hi]]
    split
    · rename_i hl
      exact has_putAt hI hi hl (by omega) hh
    · exact hh
theorem new_bad (cap : Int) (w : World) (h : cap < 0 ∨ 16777216 < cap) :
    Calls Try.prog 10 #[.int .i64 cap] w fun e w' => e = .returned (.tuple #[.pointer none, .int .i64 11]) ∧ w' = w := by
  rcases h with h | h
  · go_enter Try.func10, Try.ntmps10
    go_wp2
    go_ret2
    exact ⟨rfl, rfl⟩
  · have h1 : ¬ cap < 0 := by omega
    go_enter Try.func10, Try.ntmps10
    go_wp2
    go_ret2
    exact ⟨rfl, rfl⟩
theorem new_ok (cap : Nat) (w : World) (h : cap ≤ 16777216) :
    Calls Try.prog 10 #[.int .i64 cap] w fun e w' => e = .returned (.tuple #[.pointer (some ⟨w.heap.size, 0, none⟩), .int .i64 0]) ∧ w' = w.alloc (.cells #[.int .i64 cap, .slice none 0 0, .slice none 0 0, .int .i64 0, .int .i64 0, .int .i64 0, .int .i64 0, .int .i64 0] 62) := by
  have h1 : ¬ (cap : Int) < 0 := by omega
  have h2 : ¬ (16777216 : Int) < cap := by omega
  go_enter Try.func10, Try.ntmps10
  go_wp2
  go_ret2
  exact ⟨rfl, rfl⟩
theorem ara_new (cap : Nat) (w : World) : Ara (w.alloc (.cells #[.int .i64 cap, .slice none 0 0, .slice none 0 0, .int .i64 0, .int .i64 0, .int .i64 0, .int .i64 0, .int .i64 0] 62)) w.heap.size (.slice none 0 0) (.slice none 0 0) (newA cap) :=
  ⟨Blk.new _ _ _, World.ownsRow_nil _ _ _ _, World.ownsRow_nil _ _ _ _⟩
/-- An arena of a call's own, since world w0. -/
structure Mine (w0 : World) (g : Nat) (vc vl : Value) (a : Ar) (w : World) : Prop where
  ar : Ara w g vc vl a
  b : Below w0.heap.size w0 w
  g0 : w0.heap.size ≤ g
  c0 : ∀ b, vc.ownBlock = some b → w0.heap.size ≤ b
  l0 : ∀ b, vl.ownBlock = some b → w0.heap.size ≤ b
theorem Mine.new (cap : Nat) (w0 w : World) (hb : Below w0.heap.size w0 w) : Mine w0 w.heap.size (.slice none 0 0) (.slice none 0 0) (newA cap) (w.alloc (.cells #[.int .i64 cap, .slice none 0 0, .slice none 0 0, .int .i64 0, .int .i64 0, .int .i64 0, .int .i64 0, .int .i64 0] 62)) :=
  ⟨ara_new cap w, hb.alloc hb.size _, hb.size, by simp [Value.ownBlock], by simp [Value.ownBlock]⟩
theorem Mine.below {w0 w w' : World} {g : Nat} {vc vl : Value} {a : Ar} (h : Mine w0 g vc vl a w) (hb : Below w.heap.size w w') : Mine w0 g vc vl a w' :=
  ⟨h.ar.below hb, h.b.trans (hb.mono h.b.size), h.g0, h.c0, h.l0⟩
theorem Mine.next {w0 w w' : World} {g : Nat} {vc vl r : Value} {a a' : Ar} {e : Ending} (h : Mine w0 g vc vl a w) (hp : AraPost w g vc vl r a' e w') :
    ∃ vc' vl', e = .returned r ∧ Mine w0 g vc' vl' a' w' ∧ Frm [some g, vc.ownBlock, vl.ownBlock] w w' := by
  obtain ⟨vc', vl', he, har, hf, hc, hl⟩ := hp
  have hs := h.b.size
  refine ⟨vc', vl', he, ⟨har, h.b.trans (hf.below hs fun x hx => ?_), h.g0, fun b hb => ?_, fun b hb => ?_⟩, hf⟩
  · simp only [List.mem_cons, List.not_mem_nil, or_false] at hx
    rcases hx with hx | hx | hx
    · injection hx with hx; subst hx; exact h.g0
    · exact h.c0 x hx.symm
    · exact h.l0 x hx.symm
  · rcases hc with hc | hc
    · exact h.c0 b (hc ▸ hb)
    · have := hc b hb; omega
  · rcases hl with hl | hl
    · exact h.l0 b (hl ▸ hb)
    · have := hl b hb; omega
end Go.Proofs.Ytpjgoiogpgggeaa
