/- The arena's methods beside blocks of the caller's own: these stay. Conditions: each lemma's own. -/
import Derived.Test.YtpjgoiogpgggeaaArM
namespace Go.Proofs.Ytpjgoiogpgggeaa
open Go.RowKit
def Apart (g : Nat) (vc vl : Value) (p : Nat) : Prop := p ≠ g ∧ vc.ownBlock ≠ some p ∧ vl.ownBlock ≠ some p
/-- What a call on an arena leaves of the caller's blocks. -/
structure Kp (g : Nat) (vc vl : Value) (w : World) (vc' vl' : Value) (w' : World) : Prop where
  sz : w.heap.size ≤ w'.heap.size
  blk : ∀ p t cs, Blk w p t cs → Apart g vc vl p → Blk w' p t cs ∧ Apart g vc' vl' p
theorem Kp.refl (g : Nat) (vc vl : Value) (w : World) : Kp g vc vl w vc vl w := ⟨Nat.le_refl _, fun _ _ _ h1 h2 => ⟨h1, h2⟩⟩
theorem Kp.trans {g : Nat} {vc vl vc' vl' vc2 vl2 : Value} {w w' w2 : World} (h : Kp g vc vl w vc' vl' w') (k : Kp g vc' vl' w' vc2 vl2 w2) : Kp g vc vl w vc2 vl2 w2 :=
  ⟨Nat.le_trans h.sz k.sz, fun p t cs h1 h2 => by obtain ⟨h3, h4⟩ := h.blk p t cs h1 h2; exact k.blk p t cs h3 h4⟩
theorem Kp.below {g : Nat} {vc vl : Value} {w w' : World} (hb : Below w.heap.size w w') : Kp g vc vl w vc vl w' := ⟨hb.size, fun _ _ _ h1 h2 => ⟨h1.below hb h1.lt, h2⟩⟩
theorem Kp.own {g : Nat} {vc vl vc' vl' : Value} {w w' : World} (h : Kp g vc vl w vc' vl' w') {base e sz n : Nat} {v : Value} {xs : List Value} (ho : w.ownsRow base e sz v n xs) (ha : ∀ b, v.ownBlock = some b → Apart g vc vl b) :
    w'.ownsRow base e sz v n xs ∧ ∀ b, v.ownBlock = some b → Apart g vc' vl' b := by
  rcases ho.2 with ⟨rfl, h0⟩ | ⟨r, cap, cur, rfl, hb, hg, q⟩
  · exact ⟨⟨ho.1, .inl ⟨rfl, h0⟩⟩, fun b hb => by simp [Value.ownBlock] at hb⟩
  · obtain ⟨h1, h2⟩ := h.blk r e cur hg (ha r rfl)
    exact ⟨⟨ho.1, .inr ⟨r, cap, cur, rfl, hb, h1, q⟩⟩, fun b hb => by injection hb with hb; subst hb; exact h2⟩
section
variable {w0 w : World} {g : Nat} {vc vl : Value} {a a' : Ar}
theorem Mine.kp {w' : World} {r : Value} {e : Ending} (h : Mine w0 g vc vl a w) (hp : AraPost w g vc vl r a' e w') :
    ∃ vc' vl', e = .returned r ∧ Mine w0 g vc' vl' a' w' ∧ Kp g vc vl w vc' vl' w' := by
  obtain ⟨vc', vl', he, har, hf, hc, hl⟩ := hp
  obtain ⟨vc2, vl2, he2, hm, _⟩ := h.next ⟨vc', vl', he, har, hf, hc, hl⟩
  have hs := h.b.size
  have hm' : Mine w0 g vc' vl' a' w' := by
    refine ⟨har, hm.b, h.g0, fun b hb => ?_, fun b hb => ?_⟩
    · rcases hc with hc | hc
      · exact h.c0 b (hc ▸ hb)
      · have := hc b hb; omega
    · rcases hl with hl | hl
      · exact h.l0 b (hl ▸ hb)
      · have := hl b hb; omega
  refine ⟨vc', vl', he, hm', hf.size, fun p t cs hb ⟨q1, q2, q3⟩ => ⟨hb.frm hf ?_, q1, ?_, ?_⟩⟩
  · simp only [List.mem_cons, List.not_mem_nil, or_false, not_or]
    exact ⟨by simpa using q1, fun e => q2 e.symm, fun e => q3 e.symm⟩
  · rcases hc with hc | hc
    · rw [hc]; exact q2
    · intro e; have := hc p e; have := hb.lt; omega
  · rcases hl with hl | hl
    · rw [hl]; exact q3
    · intro e; have := hl p e; have := hb.lt; omega
theorem give_kp (hM : Mine w0 g vc vl a w) (hI : Inv a) (hs : Sml a) (n : Int) :
    Calls Try.prog 11 #[.pointer (some ⟨g, 0, none⟩), .int .i64 n] w fun e w' => ∃ vc' vl', e = .returned (.tuple #[.int .i64 (giveF a n).2.1, .int .i64 (giveF a n).2.2]) ∧ Mine w0 g vc' vl' (giveF a n).1 w' ∧ Kp g vc vl w vc' vl' w' :=
  (give_c g vc vl a n w hM.ar hI hs).mono fun e w' hp => hM.kp hp
theorem give_kpe (hM : Mine w0 g vc vl a w) (hI : Inv a) (hs : Sml a) {n r er : Int} (he : giveF a n = (a', r, er)) :
    Calls Try.prog 11 #[.pointer (some ⟨g, 0, none⟩), .int .i64 n] w fun e w' => ∃ vc' vl', e = .returned (.tuple #[.int .i64 r, .int .i64 er]) ∧ Mine w0 g vc' vl' a' w' ∧ Kp g vc vl w vc' vl' w' := by
  have := give_kp hM hI hs n
  rw [he] at this
  exact this
theorem free_kp (hM : Mine w0 g vc vl a w) (hI : Inv a) (hs : Sml a) (N : Int) :
    Calls Try.prog 12 #[.pointer (some ⟨g, 0, none⟩), .int .i64 N] w fun e w' => ∃ vc' vl', e = .returned (.int .i64 (freeF a N).2) ∧ Mine w0 g vc' vl' (freeF a N).1 w' ∧ Kp g vc vl w vc' vl' w' :=
  (free_c g vc vl a N w hM.ar hI hs).mono fun e w' hp => hM.kp hp
theorem free_kpe (hM : Mine w0 g vc vl a w) (hI : Inv a) (hs : Sml a) {N er : Int} (he : freeF a N = (a', er)) :
    Calls Try.prog 12 #[.pointer (some ⟨g, 0, none⟩), .int .i64 N] w fun e w' => ∃ vc' vl', e = .returned (.int .i64 er) ∧ Mine w0 g vc' vl' a' w' ∧ Kp g vc vl w vc' vl' w' := by
  have := free_kp hM hI hs N
  rw [he] at this
  exact this
theorem put_kp (hM : Mine w0 g vc vl a w) (hI : Inv a) (hs : Sml a) (N : Int) {A : Option Addr} {c : Nat} {ys : List Int} (hy : RdF w A ys) :
    Calls Try.prog 14 #[.pointer (some ⟨g, 0, none⟩), .int .i64 N, .slice A ys.length c] w fun e w' => ∃ vc' vl', e = .returned (.int .i64 (putF a N ys).2) ∧ Mine w0 g vc' vl' (putF a N ys).1 w' ∧ Kp g vc vl w vc' vl' w' :=
  (put_c g vc vl a N A c ys w hM.ar hI hs hy).mono fun e w' hp => hM.kp hp
end
/-! Only given, never freed: the blocks lie one behind the other. -/
structure Gvn (a : Ar) (cap : Nat) : Prop where
  inv : Inv a
  cap : a.cap = cap
  ct : Contig 0 a.l
  mv : a.moves = 0
  ls : a.last = a.l.length
  hh : ∀ i (hi : i < a.l.length), a.l[i].h = i + 1
theorem gvn_new (cap : Nat) : Gvn (newA cap) cap := ⟨inv_new cap, rfl, trivial, rfl, rfl, fun i hi => by simp [newA] at hi⟩
theorem gvn_give {a : Ar} {cap : Nat} (h : Gvn a cap) (n : Int) :
    ((giveF a n).2.2 ≠ 0 ∧ (giveF a n).1 = a) ∨ ((giveF a n).2.2 = 0 ∧ (giveF a n).2.1 = (a.l.length : Int) + 1 ∧ Gvn (giveF a n).1 cap ∧ (giveF a n).1.l.length = a.l.length + 1) := by
  have hinv := inv_giveF n h.inv
  unfold giveF at hinv ⊢
  split
  · exact .inl ⟨by simp, rfl⟩
  · rename_i h1
    split
    · exact .inl ⟨by simp, rfl⟩
    · rename_i h2
      rw [if_neg h1, if_neg h2] at hinv
      obtain ⟨m, rfl⟩ : ∃ m : Nat, n = m := ⟨n.toNat, by omega⟩
      simp only [Int.toNat_natCast] at hinv ⊢
      have hm : 1 ≤ m := by omega
      have hg : gapOf a.cap m a.l 0 0 = some (a.live, a.l.length) := by
        rw [gap_contig h.ct hm, Nat.zero_add, ← h.inv.lv, if_pos (by omega), Nat.zero_add]
      have hl : (giveOk a m).l = a.l ++ [⟨a.last + 1, a.live, m⟩] := by
        unfold giveOk; rw [hg]
        show a.l.take a.l.length ++ _ :: a.l.drop a.l.length = _
        rw [List.take_length, List.drop_length]
      obtain ⟨q1, q2, q3, q4, q5, q6⟩ := giveOk_flds a m
      refine .inr ⟨by trivial, by rw [h.ls], ⟨hinv, q1.trans h.cap, ?_, ?_, ?_, ?_⟩, by rw [hl]; simp⟩
      · rw [hl]; exact contig_snoc h.ct _ (by rw [Nat.zero_add]; exact h.inv.lv)
      · have : (giveOk a m).moves = a.moves := by unfold giveOk; rw [hg]; rfl
        rw [this]; exact h.mv
      · rw [q2, hl, h.ls]; simp
      · intro i hi
        simp only [hl] at hi ⊢
        by_cases hlt : i < a.l.length
        · rw [List.getElem_append_left hlt]; exact h.hh i hlt
        · have : i = a.l.length := by simp at hi; omega
          subst this
          simp [h.ls]
theorem gvn_hix {a : Ar} {cap K : Nat} (h : Gvn a cap) (hK : K < a.l.length) : hix ((K : Int) + 1) a.l 0 = some K := by
  cases hq : hix ((K : Int) + 1) a.l 0 with
  | none => exact absurd (by have := h.hh K hK; omega) (hix_none.1 hq _ (List.getElem_mem hK))
  | some i =>
    obtain ⟨hi, he⟩ := hix_at hq
    have := h.hh i hi
    congr 1; omega
theorem gap_again {cap fr i k : Nat} {l : List Bk} (h : Contig fr l) (hw : ∀ b ∈ l, 1 ≤ b.w) (hk : k < l.length) (hc : fr + Wds l ≤ cap) : gapOf cap l[k].w (l.take k ++ l.drop (k + 1)) fr i = some (l[k].f, i + k) := by
  induction l generalizing fr i k with
  | nil => simp at hk
  | cons b r ih =>
    obtain ⟨h1, h2⟩ := h
    simp only [Wds] at hc
    cases k with
    | zero =>
      simp only [List.getElem_cons_zero, List.take_zero, List.nil_append, List.drop_succ_cons, List.drop_zero, Nat.add_zero]
      cases r with
      | nil => unfold gapOf; rw [if_pos (by omega), h1]
      | cons c r => unfold gapOf; rw [if_pos (by have := h2.1; omega), h1]
    | succ k =>
      have hk' : k < r.length := by simpa using hk
      have hkw := hw r[k] (List.mem_cons_of_mem _ (List.getElem_mem hk'))
      simp only [List.getElem_cons_succ, List.take_succ_cons, List.cons_append, List.drop_succ_cons]
      rw [gapOf, if_neg (by omega), h1, ih h2 (fun b hb => hw b (List.mem_cons_of_mem _ hb)) hk' (by omega)]
      congr 2; omega
theorem gvn_again {a : Ar} {cap K : Nat} (h : Gvn a cap) (hc : cap ≤ 300) (hK : K < a.l.length) :
    freeF a ((K : Int) + 1) = (freeAt a K, 0) ∧ giveF (freeAt a K) (a.l[K].w : Int) = (giveAt (freeAt a K) a.l[K].f K a.l[K].w, (a.last : Int) + 1, 0) ∧
      hix ((a.last : Int) + 1) (giveAt (freeAt a K) a.l[K].f K a.l[K].w).l 0 = some K ∧ (giveAt (freeAt a K) a.l[K].f K a.l[K].w).l.getD K ⟨0, 0, 0⟩ = ⟨a.last + 1, a.l[K].f, a.l[K].w⟩ := by
  have hm := h.inv.fit.mem (List.getElem_mem hK)
  have hcap := h.cap
  have hhc := h.inv.hc
  have hgd : a.l.getD K ⟨0, 0, 0⟩ = a.l[K] := by simp [hK]
  have hw : a.l[K].w ≤ Wds a.l := by
    have : a.l = a.l.take K ++ a.l[K] :: a.l.drop (K + 1) := by rw [← List.drop_eq_getElem_cons hK, List.take_append_drop]
    have := congrArg Wds this
    rw [wds_append] at this; simp only [Wds] at this; omega
  have hlv := h.inv.lv
  have hlive := h.inv.live
  have hlive2 : (freeAt a K).live = a.live - a.l[K].w := by show a.live - (a.l.getD K ⟨0, 0, 0⟩).w = _; rw [hgd]
  have hgap : gapOf (freeAt a K).cap a.l[K].w (freeAt a K).l 0 0 = some (a.l[K].f, K) := by
    have := gap_again (cap := a.cap) (i := 0) h.ct (fun b hb => (h.inv.fit.mem hb).2.1) hK (by omega)
    rw [Nat.zero_add] at this
    exact this
  have hlK : ((freeAt a K).l.take K).length = K := by
    show ((a.l.take K ++ a.l.drop (K + 1)).take K).length = K
    rw [List.length_take, List.length_append, List.length_take, List.length_drop]; omega
  have hget : (giveAt (freeAt a K) a.l[K].f K a.l[K].w).l[K]? = some ⟨a.last + 1, a.l[K].f, a.l[K].w⟩ := by
    show ((freeAt a K).l.take K ++ _ :: (freeAt a K).l.drop K)[K]? = _
    rw [List.getElem?_append_right (by omega), hlK, Nat.sub_self]; rfl
  refine ⟨by unfold freeF; rw [gvn_hix h hK], ?_, ?_, by rw [List.getD_eq_getElem?_getD, hget]; rfl⟩
  · unfold giveF
    rw [if_neg (by omega), if_neg (by rw [hlive2]; show ¬ (a.cap : Int) < _; omega), Int.toNat_natCast]
    unfold giveOk
    rw [hgap]
    rfl
  · have hI := inv_giveAt (inv_freeAt h.inv hK) (n := a.l[K].w) (by omega) (by rw [hlive2]; show _ ≤ a.cap; omega) hgap
    obtain ⟨hKl, hKe⟩ := List.getElem?_eq_some_iff.1 hget
    obtain ⟨i, hi, q1, q2, _⟩ := has_hix hI (h := a.last + 1) (xs := ((giveAt (freeAt a K) a.l[K].f K a.l[K].w).cells.drop a.l[K].f).take a.l[K].w) ⟨⟨a.last + 1, a.l[K].f, a.l[K].w⟩, hKe ▸ List.getElem_mem hKl, rfl, cont_self (by
      have := hI.fit.mem (hKe ▸ List.getElem_mem hKl : (⟨a.last + 1, a.l[K].f, a.l[K].w⟩ : Bk) ∈ _); rw [hI.cl]; exact this.2.2)⟩
    rw [show ((a.last : Int) + 1) = ((a.last + 1 : Nat) : Int) from rfl, q1]
    congr 1
    have hnd := List.pairwise_iff_getElem.1 hI.nd
    rcases Nat.lt_trichotomy i K with h1 | h1 | h1
    · have := hnd i K (by simpa using hi) (by simpa using hKl) h1
      simp only [List.getElem_map, hKe, q2] at this; exact absurd rfl this
    · exact h1
    · have := hnd K i (by simpa using hKl) (by simpa using hi) h1
      simp only [List.getElem_map, hKe, q2] at this; exact absurd rfl this
end Go.Proofs.Ytpjgoiogpgggeaa
