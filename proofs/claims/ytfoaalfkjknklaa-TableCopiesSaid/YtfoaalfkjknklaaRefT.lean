/- The reference's functions of layer 16 (lists of pairs) and the law's 'small', walked. Conditions: each theorem's own. -/
import Derived.Test.YtfoaalfkjknklaaTabG
namespace Go.Proofs.Ytfoaalfkjknklaa
open Go.RowKit
abbrev PL := List (Int × ByteArray)
abbrev pents (l : PL) : List Value := ents (fun k => .int .i64 k) (fun x => .string x) l
abbrev OwnP (w : World) (v : Value) (l : PL) : Prop := w.ownsRow 0 43 2 v l.length (pents l)
theorem info_pair : (Try.prog.info? 43).map (fun i => (i.zero, i.size, i.bytes, (Value.agg #[.int .i64 0, .string ⟨#[]⟩]).cells.size)) = some (some (.agg #[.int .i64 0, .string ⟨#[]⟩]), 2, 24, 2) := by kernel_rfl
theorem own_cells2 {w : World} {E : TypeId} {κ ν : Type} {kv : κ → Value} {vv : ν → Value} {A : Option Addr} {c : Nat} {l : List (κ × ν)} (ho : w.ownsRow 0 E 2 (.slice A l.length c) l.length (ents kv vv l)) (i : Nat) (hi : i < l.length) :
    ∃ r, A = some ⟨r, 0, none⟩ ∧ r < w.heap.size ∧ w.cell? ⟨r, i * 2, none⟩ = some (kv l[i].1) ∧ w.cell? ⟨r, i * 2 + 1, none⟩ = some (vv l[i].2) := by
  rcases ho.2 with ⟨_, h0⟩ | ⟨r, cap, cur, hv, _, hg, _⟩
  · omega
  · injection hv with h1 h2 h3
    subst h1; subst h3
    refine ⟨r, rfl, (Array.getElem?_eq_some_iff.1 hg).1, ?_, ?_⟩
    · rw [ho.cellAt _ (by omega), ents_get0, List.getElem?_eq_getElem hi]; rfl
    · rw [ho.cellAt _ (by omega), ents_get1, List.getElem?_eq_getElem hi]; rfl
theorem own_slice' {w : World} {base e sz n : Nat} {v : Value} {xs : List Value} (h : w.ownsRow base e sz v n xs) : ∃ A c, v = .slice A n c := own_slice h
theorem OwnP.snoc {w : World} {v : Value} {l : PL} {k : Int} {x : ByteArray} (h : w.ownsRow 0 43 2 v (l.length + 1) (pents l ++ [.int .i64 k, .string x])) : OwnP w v (l ++ [(k, x)]) := by
  unfold OwnP
  rw [List.length_append, pents, ents_append, ents_cons, ents_nil]
  exact h
theorem getD_lt' {α : Type} (l : List α) (d : α) (j : Nat) (h : j < l.length) : l.getD j d = l[j] := by simp [h]
def sLen : Value → Nat | .slice _ n _ => n | _ => 0
def rdel (l : PL) (k : Int) : PL := l.filter fun e => e.1 != k
def rset (l : PL) (k : Int) (x : ByteArray) : PL := rdel l k ++ [(k, x)]
theorem rdel_len (l : PL) (k : Int) : (rdel l k).length ≤ l.length := List.length_filter_le _ _

set_option maxHeartbeats 400000 in
theorem rdel_any (v : Value) (l : PL) (k : Int) (w : World) (ho : OwnP w v l) (hn : l.length ≤ 1000000) :
    Calls Try.prog 29 #[v, .int .i64 k] w (RowPost w 43 2 (rdel l k).length (pents (rdel l k))) := by
  obtain ⟨i0, hi0, hz0, hz1, hz2, hz3⟩ := info_parts4 info_pair
  obtain ⟨A, c, rfl⟩ := own_slice ho
  have hcells := own_cells2 ho
  have HC := Lib.hid hcells
  clear hcells ho
  go_enter Try.func29, Try.ntmps29
  go_wp2_with fail
  go_loopw [5, 6] (fun o i wr => ∃ k1 : Nat, k1 ≤ l.length ∧ i = .int .i64 k1 ∧ OwnP wr o (rdel (l.take k1) k) ∧ Below w.heap.size w wr ∧ (∀ b, o.ownBlock = some b → w.heap.size ≤ b)) (fun _ i _ => l.length - (intOf i).toNat)
  case atStart => exact ⟨0, by omega, rfl, World.ownsRow_nil _ _ _ _, Below.refl _ _, by simp [Value.ownBlock]⟩
  case round =>
    obtain ⟨j, hj, rfl, ho, hb, hf⟩ := hrel
    by_cases hlt : j < l.length
    · obtain ⟨r, rfl, hrl, h0, h1⟩ := HC.out j hlt
      have g0 := (hb.cell (p := ⟨r, j * 2, none⟩) hrl).trans h0
      have g1 := (hb.cell (p := ⟨r, j * 2 + 1, none⟩) hrl).trans h1
      clear h0 h1
      have hst : rdel (l.take (j + 1)) k = if l[j].1 == k then rdel (l.take j) k else rdel (l.take j) k ++ [(l[j].1, l[j].2)] := by
        rw [List.take_succ_eq_append_getElem hlt, rdel, List.filter_append, List.filter_cons]
        by_cases he : l[j].1 = k <;> simp [he, rdel]
      have hdl : (rdel (l.take j) k).length ≤ 1000000 := by have := rdel_len (l.take j) k; rw [List.length_take] at this; omega
      have HST := Lib.hid hst; clear hst
      generalize l[j] = q at *
      obtain ⟨qk, qv⟩ := q
      have HO := Lib.hid ho; have HF := Lib.hid hf; have HB := Lib.hid hb; clear ho hf hb
      by_cases he : qk = k
      · subst he
        go_wp2_with fail
        go_roundw
        case rel => exact ⟨j + 1, by omega, by go_num, by rw [HST.out]; simpa using HO.out, HB.out, HF.out⟩
        case measure => simp [intOf]; omega
      · have he' : (qk == k) = false := by simpa using he
        have hne' : (qk != k) = true := by simpa using he
        have hr : ∀ v' w', w'.ownsRow 0 43 2 v' ((rdel (l.take j) k).length + 1) (pents (rdel (l.take j) k) ++ [.int .i64 qk, .string qv]) → wr.grownBy w' u5.ownBlock → (v'.ownBlock = u5.ownBlock ∨ ∀ b, v'.ownBlock = some b → wr.heap.size ≤ b) →
            OwnP w' v' (rdel (l.take (j + 1)) k) ∧ Below w.heap.size w w' ∧ (∀ b, v'.ownBlock = some b → w.heap.size ≤ b) := fun v' w' h1 h2 h3 => by
          have e1 : rdel (l.take (j + 1)) k = rdel (l.take j) k ++ [(qk, qv)] := by rw [HST.out, he']; simp
          refine ⟨?_, HB.out.grown h2 HB.out.size HF.out, fun b hb => ?_⟩
          · rw [e1]; exact OwnP.snoc h1
          · rcases h3 with h | h
            · exact HF.out b (by rw [← h]; exact hb)
            · have := h b hb; have := HB.out.size; omega
        have HR := Lib.hid hr; clear hr he
        generalize rdel (l.take j) k = dl at *
        go_wp2_with (at_builtin; refine wpList_append_one rfl (.tmp 20) (.tmp 25) _ rfl Try.underlying36 hi0 hz0 hz1 hz2 hz3 (by omega) (v := u5) rfl HO.out [.int .i64 qk, .string qv] rfl (by simp [Value.oneCell']) rfl rfl (by omega) (by omega) ?_; intro v' w' h1 h2 h3; obtain ⟨h4, h5, h6⟩ := HR.out _ _ h1 h2 h3; have H4 := Lib.hid h4; have H5 := Lib.hid h5; have H6 := Lib.hid h6; clear h1 h2 h3 h4 h5 h6)
        go_roundw
        case rel => exact ⟨j + 1, by omega, by go_num, H4.out, H5.out, H6.out⟩
        case measure => simp [intOf]; omega
    · have hkl : j = l.length := by omega
      have hfin : RowPost w 43 2 (rdel l k).length (pents (rdel l k)) (.returned u5) wr := ⟨u5, rfl, by rw [hkl, List.take_length] at ho; exact ho, hb, hf⟩
      have HF := Lib.hid hfin
      have HKL := Lib.hid hkl
      clear hfin hkl ho hf
      go_wp2_with fail
      go_ret
      exact HF.out

set_option maxHeartbeats 400000 in
theorem rset_any (v : Value) (l : PL) (k : Int) (x : ByteArray) (w : World) (ho : OwnP w v l) (hn : l.length ≤ 900000) :
    Calls Try.prog 13 #[v, .int .i64 k, .string x] w (RowPost w 43 2 (rset l k x).length (pents (rset l k x))) := by
  obtain ⟨i0, hi0, hz0, hz1, hz2, hz3⟩ := info_parts4 info_pair
  have HC := Lib.hid (rdel_any v l k w ho (by omega))
  have hdl := rdel_len l k
  have hr : ∀ (v1 : Value) (w1 : World) (v' : Value) (w' : World), Below w.heap.size w w1 → (∀ b, v1.ownBlock = some b → w.heap.size ≤ b) → w'.ownsRow 0 43 2 v' ((rdel l k).length + 1) (pents (rdel l k) ++ [.int .i64 k, .string x]) → w1.grownBy w' v1.ownBlock → (v'.ownBlock = v1.ownBlock ∨ ∀ b, v'.ownBlock = some b → w1.heap.size ≤ b) →
      RowPost w 43 2 (rset l k x).length (pents (rset l k x)) (.returned v') w' := fun v1 w1 v' w' hb1 hv1 h1 h2 h3 => by
    refine ⟨v', rfl, ?_, hb1.grown h2 hb1.size hv1, fun b hb => ?_⟩
    · rw [rset]; exact OwnP.snoc h1
    · rcases h3 with h | h
      · exact hv1 b (by rw [← h]; exact hb)
      · have := h b hb; have := hb1.size; omega
  have HR := Lib.hid hr; clear hr ho
  generalize rdel l k = dl at *
  go_enter Try.func13, Try.ntmps13
  go_wp2_with (first
    | (go_at_call 29; refine HC.out.mono ?_; rintro e w1 ⟨v1, rfl, ho1, hb1, hv1⟩; obtain ⟨A, c, rfl⟩ := own_slice ho1; have HO1 := Lib.hid ho1; have HV1 := Lib.hid hv1; clear ho1 hv1)
    | (at_builtin; refine wpList_append_one rfl (.tmp 11) (.tmp 15) _ rfl Try.underlying36 hi0 hz0 hz1 hz2 hz3 (by omega) rfl HO1.out [.int .i64 k, .string x] rfl (by simp [Value.oneCell']) rfl rfl (by omega) (by omega) ?_; intro v' w' h1 h2 h3; have H9 := Lib.hid (HR.out _ _ _ _ hb1 HV1.out h1 h2 h3); clear h1 h2 h3))
  go_ret
  exact H9.out

def rfind (l : PL) (k : Int) : Int := match l.findIdx? fun e => e.1 == k with
  | some i => i
  | none => -1
set_option maxHeartbeats 400000 in
theorem rfind_any (v : Value) (l : PL) (k : Int) (w : World) (ho : OwnP w v l) (hn : l.length ≤ 1000000) :
    Calls Try.prog 31 #[v, .int .i64 k] w fun e w' => e = .returned (.int .i64 (rfind l k)) ∧ w = w' := by
  obtain ⟨A, c, rfl⟩ := own_slice ho
  have HC := Lib.hid (own_cells2 ho)
  clear ho
  go_enter Try.func31, Try.ntmps31
  go_wp2_with fail
  go_loop [5] (fun i => ∃ k1 : Nat, k1 ≤ l.length ∧ i = .int .i64 k1 ∧ ∀ t (h : t < l.length), t < k1 → (l[t].1 == k) = false) (fun i => l.length - (intOf i).toNat)
  case atStart => exact ⟨0, by omega, rfl, fun _ _ h => by omega⟩
  case round =>
    obtain ⟨j, hj, rfl, hno⟩ := hrel
    by_cases hlt : j < l.length
    · obtain ⟨r, rfl, hrl, h0, h1⟩ := HC.out j hlt
      have hnx : (l[j].1 == k) = false → ∀ t (h : t < l.length), t < j + 1 → (l[t].1 == k) = false := fun h t ht hlt => by
        rcases Nat.lt_or_ge t j with h1 | h1
        · exact hno t ht h1
        · obtain rfl : t = j := by omega
          exact h
      have hy : (l[j].1 == k) = true → rfind l k = j := fun h => by
        unfold rfind
        rw [(List.findIdx?_eq_some_iff_getElem (xs := l) (i := j)).2 ⟨hlt, h, fun t ht => by rw [hno t (by omega) ht]; simp⟩]
      have HNX := Lib.hid hnx; have HY := Lib.hid hy; clear hnx hy hno h1
      generalize l[j] = q at *
      obtain ⟨qk, qv⟩ := q
      by_cases he : qk = k
      · subst he
        go_wp2_with fail
        go_ret
        exact ⟨by rw [HY.out (by simp)]; rfl, rfl⟩
      · have he' : (qk == k) = false := by simpa using he
        clear he
        go_wp2_with fail
        go_round
        case rel => exact ⟨j + 1, by omega, by go_num, HNX.out he'⟩
        case measure => simp [intOf]; omega
    · have hfin : rfind l k = -1 := by
        unfold rfind
        rw [List.findIdx?_eq_none_iff.2 fun e he => by
          obtain ⟨t, ht, rfl⟩ := List.mem_iff_getElem.1 he
          exact hno t ht (by omega)]
      have HF := Lib.hid hfin
      clear hfin hno
      go_wp2_with fail
      go_ret
      exact ⟨by rw [HF.out]; rfl, rfl⟩

def rbest (l : PL) : Nat → Nat
  | 0 => 0
  | i + 1 => if (l.getD (i + 1) (0, ⟨#[]⟩)).1 < (l.getD (rbest l i) (0, ⟨#[]⟩)).1 then i + 1 else rbest l i
theorem rbest_le (l : PL) (i : Nat) : rbest l i ≤ i := by
  induction i with
  | zero => exact Nat.le_refl _
  | succ i ih => rw [rbest]; split <;> omega
def rpick (l : PL) : Int × ByteArray := l.getD (rbest l (l.length - 1)) (0, ⟨#[]⟩)
theorem rpick_mem {l : PL} (h : 0 < l.length) : rpick l ∈ l := by
  have := rbest_le l (l.length - 1)
  unfold rpick
  rw [getD_lt' l _ _ (by omega)]
  exact List.getElem_mem _
theorem rdel_lt {l : PL} {e : Int × ByteArray} (h : e ∈ l) : (rdel l e.1).length < l.length := by
  unfold rdel
  exact List.length_filter_lt_length_iff_exists.2 ⟨e, h, by simp⟩
def rsorted (l : PL) : PL := if h : 0 < l.length then rpick l :: rsorted (rdel l (rpick l).1) else []
termination_by l.length
decreasing_by exact rdel_lt (rpick_mem h)
theorem rsorted_pos {l : PL} (h : 0 < l.length) : rsorted l = rpick l :: rsorted (rdel l (rpick l).1) := by rw [rsorted, dif_pos h]
theorem rsorted_nil {l : PL} (h : ¬ 0 < l.length) : rsorted l = [] := by rw [rsorted, dif_neg h]

set_option maxRecDepth 100000 in
set_option maxHeartbeats 1000000 in
theorem rsorted_any (v : Value) (l : PL) (w : World) (ho : OwnP w v l) (hn : l.length ≤ 900000) :
    Calls Try.prog 14 #[v] w (RowPost w 43 2 (rsorted l).length (pents (rsorted l))) := by
  obtain ⟨i0, hi0, hz0, hz1, hz2, hz3⟩ := info_parts4 info_pair
  have HO := Lib.hid ho; clear ho
  go_enter Try.func14, Try.ntmps14
  go_wp2_with fail
  go_loopw [0, 3] (fun s o wr => ∃ (done cur : PL), OwnP wr s cur ∧ OwnP wr o done ∧ rsorted l = done ++ rsorted cur ∧ cur.length ≤ 900000 ∧ done.length + cur.length ≤ 900000 ∧ Below w.heap.size w wr ∧ (∀ b, o.ownBlock = some b → w.heap.size ≤ b) ∧ (∀ b, s.ownBlock = some b → o.ownBlock ≠ some b)) (fun s _ _ => sLen s)
  case atStart => exact ⟨[], l, HO.out, World.ownsRow_nil _ _ _ _, by simp, hn, by simpa using hn, Below.refl _ _, by simp [Value.ownBlock], by simp [Value.ownBlock]⟩
  case round =>
    obtain ⟨done, cur, hs, ho, heq, hcl, hdl, hb, hv, hsv⟩ := hrel
    obtain ⟨A, c, rfl⟩ := own_slice hs
    by_cases hpos : 0 < cur.length
    · have HC := Lib.hid (own_cells2 hs)
      obtain ⟨wo, rfl⟩ : ∃ wo : World, wo = wr := ⟨_, rfl⟩
      have HS := Lib.hid hs; have HOO := Lib.hid ho; have HEQ := Lib.hid heq; have HV := Lib.hid hv; have HSV := Lib.hid hsv
      clear hs ho heq hv hsv
      go_wp2_with fail
      go_loopw [4, 5] (fun b i wr => ∃ (k q : Nat), 1 ≤ k ∧ k ≤ cur.length ∧ i = .int .i64 k ∧ b = .int .i64 (rbest cur (k - 1) : Nat) ∧ wr = wo.drewN q) (fun _ i _ => cur.length - (intOf i).toNat)
      case atStart => exact ⟨1, 0, by omega, by omega, rfl, rfl, rfl⟩
      case round =>
        obtain ⟨k, q, h1k, hkl, rfl, rfl, rfl⟩ := hrel
        have hbl := rbest_le cur (k - 1)
        by_cases hlt : k < cur.length
        · obtain ⟨r, rfl, hrl, h0, _⟩ := HC.out k hlt
          obtain ⟨r', hr', _, h1, _⟩ := HC.out (rbest cur (k - 1)) (by omega)
          injection hr' with hr'; injection hr' with hr'; subst hr'
          have hst : rbest cur k = if cur[k].1 < (cur[rbest cur (k - 1)]'(by omega)).1 then k else rbest cur (k - 1) := by
            obtain ⟨k', rfl⟩ : ∃ k', k = k' + 1 := ⟨k - 1, by omega⟩
            rw [rbest, getD_lt' _ _ _ hlt, getD_lt' _ _ _ (by simp at hbl; omega)]
            rfl
          have HST := Lib.hid hst; clear hst
          generalize cur[k] = p1 at *
          generalize (cur[rbest cur (k - 1)]'(by omega)) = p2 at *
          generalize rbest cur (k - 1) = b at *
          obtain ⟨k1, v1⟩ := p1
          obtain ⟨k2, v2⟩ := p2
          have hi1 : (b : Int) < (cur.length : Int) := by omega
          have hi2 : (k : Int) < (cur.length : Int) := by omega
          have hi3 : (0 : Int) ≤ (b : Int) := by omega
          have hi4 : (0 : Int) ≤ (k : Int) := by omega
          go_wp2_with fail
          go_quiet (fail)
          go_wp2_with fail
          · have hc : k1 < k2 := by assumption
            go_roundw
            case rel => exact ⟨k + 1, q + nq, by omega, by omega, by go_num, by rw [Nat.add_sub_cancel, HST.out, if_pos hc], rfl⟩
            case measure => simp [intOf]; omega
          · have hc : k2 ≤ k1 := by assumption
            go_roundw
            case rel => exact ⟨k + 1, q + nq, by omega, by omega, by go_num, by rw [Nat.add_sub_cancel, HST.out, if_neg (by omega)], rfl⟩
            case measure => simp [intOf]; omega
        · obtain rfl : k = cur.length := by omega
          obtain ⟨r, rfl, hrl, h0, h1⟩ := HC.out (rbest cur (cur.length - 1)) (by omega)
          have hpk : rpick cur = cur[rbest cur (cur.length - 1)]'(by omega) := getD_lt' _ _ _ (by omega)
          rw [← hpk] at h0 h1
          have hbi : rbest cur (cur.length - 1) < cur.length := by omega
          have hdone : rsorted l = (done ++ [rpick cur]) ++ rsorted (rdel cur (rpick cur).1) := by rw [HEQ.out, rsorted_pos hpos]; simp
          have hdel := rdel_lt (rpick_mem hpos)
          have hne : ∀ b, u3.ownBlock = some b → b ≠ r := fun b hb he => HSV.out r (by simp [Value.ownBlock]) (by rw [hb, he])
          have hrel : ∀ v' w1, w1.ownsRow 0 43 2 v' (done.length + 1) (pents done ++ [.int .i64 (rpick cur).1, .string (rpick cur).2]) → (wo.drewN q).grownBy w1 u3.ownBlock → (v'.ownBlock = u3.ownBlock ∨ ∀ b, v'.ownBlock = some b → (wo.drewN q).heap.size ≤ b) →
              OwnP w1 v' (done ++ [rpick cur]) ∧ Below w.heap.size w w1 ∧ (∀ b, v'.ownBlock = some b → w.heap.size ≤ b) ∧ OwnP w1 (.slice (some ⟨r, 0, none⟩) cur.length c) cur ∧ w1.cell? ⟨r, rbest cur (cur.length - 1) * 2, none⟩ = some (.int .i64 (rpick cur).1) := fun v' w1 h2 h3 h4 => by
            have hsz := hb.size
            have h5 : OwnP w1 (.slice (some ⟨r, 0, none⟩) cur.length c) cur := HS.out.kept (w := wo) ⟨h3.os, h3.tape, h3.output, h3.size, h3.block⟩ (by
              rcases hq : u3.ownBlock with _ | b
              · exact .inr (by simp [Value.ownBlock])
              · exact .inr (by simpa [Value.ownBlock] using fun e => hne b hq e.symm))
            refine ⟨OwnP.snoc h2, hb.grown (w := wo) ⟨h3.os, h3.tape, h3.output, h3.size, h3.block⟩ hsz HV.out, fun b hb' => ?_, h5, ?_⟩
            · rcases h4 with h | h
              · exact HV.out b (by rw [← h]; exact hb')
              · have := h b hb'; simp at this; omega
            · rw [h5.cellAt _ (by omega), ents_get0, List.getElem?_eq_getElem hbi, hpk]; rfl
          have HR := Lib.hid hrel; have HD := Lib.hid hdone; have HLT := Lib.hid hdel
          clear hrel hdone hpk hne
          generalize rbest cur (cur.length - 1) = b at *
          generalize rpick cur = pk at *
          obtain ⟨pk, pv⟩ := pk
          go_wp2_with (first
            | (at_builtin; refine wpList_append_one (W := wo.drewN q) rfl (.tmp 27) (.tmp 32) _ rfl Try.underlying36 hi0 hz0 hz1 hz2 hz3 (by omega) (v := u3) rfl (show (wo.drewN q).ownsRow _ _ _ _ _ _ from HOO.out) [.int .i64 pk, .string pv] rfl (by simp [Value.oneCell']) rfl (by simp) (by omega) (by omega) ?_; intro v' w1 h1 h2 h3; obtain ⟨h4, h5, h6, h7, h8⟩ := HR.out _ _ h1 h2 h3; have H4 := Lib.hid h4; have H5 := Lib.hid h5; have H6 := Lib.hid h6; have H7 := Lib.hid h7; clear h1 h2 h3 h4 h5 h6 h7)
            | (go_at_call 29; refine (rdel_any _ cur pk _ H7.out (by omega)).mono ?_; rintro e w2 ⟨s', rfl, ho2, hb2, hv2⟩; obtain ⟨A2, c2, rfl⟩ := own_slice ho2; have HO2 := Lib.hid ho2; have HV2 := Lib.hid hv2; clear ho2 hv2))
          go_roundw
          case rel =>
            have hlt4 := H4.out.lt
            exact ⟨done ++ [(pk, pv)], rdel cur pk, HO2.out, (Frm.of_below hb2 (S := [])).own H4.out (by simp), HD.out, by have := HLT.out; omega, by have := HLT.out; simp; omega, H5.out.trans (hb2.mono H5.out.size), H6.out, fun b hb' hb'' => by
              have h1 := HV2.out b hb'
              have h2 := hlt4 b hb''
              omega⟩
          case measure => simpa [sLen] using HLT.out
    · have hfin : RowPost w 43 2 (rsorted l).length (pents (rsorted l)) (.returned u3) wr := by
        rw [heq, rsorted_nil hpos, List.append_nil]
        exact ⟨u3, rfl, ho, hb, hv⟩
      have HF := Lib.hid hfin
      clear hfin ho hs hv hsv heq
      go_wp2_with fail
      go_ret
      exact HF.out

end Go.Proofs.Ytfoaalfkjknklaa
